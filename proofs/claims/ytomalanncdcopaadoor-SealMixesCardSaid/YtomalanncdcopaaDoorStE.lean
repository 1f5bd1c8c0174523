/- What operations yield: numbers, strings, indexes, slices; of no program. -/
import Derived.Test.YtomalanncdcopaaDoorSt
import Derived.IntWalk
import Derived.Stop.BytesEq
import Derived.Laws.BitsAllLaws
set_option linter.unusedSimpArgs false
set_option linter.unusedVariables false
namespace Go.Proofs.YtomalanncdcopaaDoor.St
open Go Go.RowKit Go.Proofs.YtomalanncdcopaaDoor.Mem

/-! ### Words -/
theorem wi64 {n : Int} (h : -9223372036854775808 ≤ n ∧ n ≤ 9223372036854775807) : IntKind.i64.wrap n = n := IntWalk.i64_in n h
theorem w8_add (x y : UInt8) : IntKind.u8.wrap ((x.toNat : Int) + y.toNat) = ((x + y).toNat : Int) := by
  rw [UInt8.toNat_add]; simp [IntKind.wrap, IntKind.bits, IntKind.signed]
theorem w8_mul (x y : UInt8) : IntKind.u8.wrap ((x.toNat : Int) * y.toNat) = ((x * y).toNat : Int) := by
  rw [UInt8.toNat_mul]; simp [IntKind.wrap, IntKind.bits, IntKind.signed]
theorem w8_sub (x y : UInt8) : IntKind.u8.wrap ((x.toNat : Int) - y.toNat) = ((x - y).toNat : Int) := by
  have h1 := x.toNat_lt
  have h2 := y.toNat_lt
  rw [UInt8.toNat_sub]; simp only [IntKind.wrap, IntKind.bits, IntKind.signed, Bool.false_and, Bool.false_eq_true, if_false]; omega
theorem w8_in {n : Int} (h : 0 ≤ n ∧ n < 2 ^ 8) : IntKind.u8.wrap n = n := by
  simp only [IntKind.wrap, IntKind.bits, IntKind.signed, Bool.false_and, Bool.false_eq_true, if_false]
  exact Int.emod_eq_of_lt h.1 h.2
theorem w8_nat (n : Nat) : IntKind.u8.wrap (n : Int) = ((UInt8.ofNat n).toNat : Int) := by
  rw [UInt8.toNat_ofNat']; simp [IntKind.wrap, IntKind.bits, IntKind.signed]
theorem w8_neg (x : UInt8) : IntKind.u8.wrap (0 - (x.toNat : Int)) = ((0 - x).toNat : Int) := by
  have := w8_sub 0 x
  simpa using this
theorem w8_and (x y : UInt8) : bits .and .u8 (x.toNat : Int) (y.toNat : Int) = ((x &&& y).toNat : Int) := by rw [u8_and_nat _ _ x.toNat_lt y.toNat_lt, UInt8.toNat_and]
theorem w8_or (x y : UInt8) : bits .or .u8 (x.toNat : Int) (y.toNat : Int) = ((x ||| y).toNat : Int) := by rw [u8_or_nat _ _ x.toNat_lt y.toNat_lt, UInt8.toNat_or]
theorem w8_xor (x y : UInt8) : bits .xor .u8 (x.toNat : Int) (y.toNat : Int) = ((x ^^^ y).toNat : Int) := by rw [u8_xor_nat _ _ x.toNat_lt y.toNat_lt, UInt8.toNat_xor]
theorem w8_lt (x : UInt8) : (x.toNat : Int) < 2 ^ 8 ∧ 0 ≤ (x.toNat : Int) := ⟨by have := x.toNat_lt; omega, by omega⟩
theorem i64_w8 (x : UInt8) (h : (x.toNat : Int) < 9223372036854775808 := by omega) : IntKind.i64.wrap (x.toNat : Int) = (x.toNat : Int) := IntWalk.i64_in _ (by omega)
theorem w8_eq (x y : UInt8) : ((x.toNat : Int) == (y.toNat : Int)) = (x == y) := by
  rw [Bool.eq_iff_iff]; simp only [beq_iff_eq]; constructor
  · intro h; exact UInt8.toNat_inj.1 (by omega)
  · intro h; rw [h]
theorem w16_add (x y : UInt16) : IntKind.u16.wrap ((x.toNat : Int) + y.toNat) = ((x + y).toNat : Int) := by
  rw [UInt16.toNat_add]; simp [IntKind.wrap, IntKind.bits, IntKind.signed]
theorem w16_mul (x y : UInt16) : IntKind.u16.wrap ((x.toNat : Int) * y.toNat) = ((x * y).toNat : Int) := by
  rw [UInt16.toNat_mul]; simp [IntKind.wrap, IntKind.bits, IntKind.signed]
theorem w16_sub (x y : UInt16) : IntKind.u16.wrap ((x.toNat : Int) - y.toNat) = ((x - y).toNat : Int) := by
  have h1 := x.toNat_lt
  have h2 := y.toNat_lt
  rw [UInt16.toNat_sub]; simp only [IntKind.wrap, IntKind.bits, IntKind.signed, Bool.false_and, Bool.false_eq_true, if_false]; omega
theorem w16_in {n : Int} (h : 0 ≤ n ∧ n < 2 ^ 16) : IntKind.u16.wrap n = n := by
  simp only [IntKind.wrap, IntKind.bits, IntKind.signed, Bool.false_and, Bool.false_eq_true, if_false]
  exact Int.emod_eq_of_lt h.1 h.2
theorem w16_nat (n : Nat) : IntKind.u16.wrap (n : Int) = ((UInt16.ofNat n).toNat : Int) := by
  rw [UInt16.toNat_ofNat']; simp [IntKind.wrap, IntKind.bits, IntKind.signed]
theorem w16_neg (x : UInt16) : IntKind.u16.wrap (0 - (x.toNat : Int)) = ((0 - x).toNat : Int) := by
  have := w16_sub 0 x
  simpa using this
theorem w16_and (x y : UInt16) : bits .and .u16 (x.toNat : Int) (y.toNat : Int) = ((x &&& y).toNat : Int) := by rw [u16_and_nat _ _ x.toNat_lt y.toNat_lt, UInt16.toNat_and]
theorem w16_or (x y : UInt16) : bits .or .u16 (x.toNat : Int) (y.toNat : Int) = ((x ||| y).toNat : Int) := by rw [u16_or_nat _ _ x.toNat_lt y.toNat_lt, UInt16.toNat_or]
theorem w16_xor (x y : UInt16) : bits .xor .u16 (x.toNat : Int) (y.toNat : Int) = ((x ^^^ y).toNat : Int) := by rw [u16_xor_nat _ _ x.toNat_lt y.toNat_lt, UInt16.toNat_xor]
theorem w16_lt (x : UInt16) : (x.toNat : Int) < 2 ^ 16 ∧ 0 ≤ (x.toNat : Int) := ⟨by have := x.toNat_lt; omega, by omega⟩
theorem i64_w16 (x : UInt16) (h : (x.toNat : Int) < 9223372036854775808 := by omega) : IntKind.i64.wrap (x.toNat : Int) = (x.toNat : Int) := IntWalk.i64_in _ (by omega)
theorem w16_eq (x y : UInt16) : ((x.toNat : Int) == (y.toNat : Int)) = (x == y) := by
  rw [Bool.eq_iff_iff]; simp only [beq_iff_eq]; constructor
  · intro h; exact UInt16.toNat_inj.1 (by omega)
  · intro h; rw [h]
theorem w32_add (x y : UInt32) : IntKind.u32.wrap ((x.toNat : Int) + y.toNat) = ((x + y).toNat : Int) := by
  rw [UInt32.toNat_add]; simp [IntKind.wrap, IntKind.bits, IntKind.signed]
theorem w32_mul (x y : UInt32) : IntKind.u32.wrap ((x.toNat : Int) * y.toNat) = ((x * y).toNat : Int) := by
  rw [UInt32.toNat_mul]; simp [IntKind.wrap, IntKind.bits, IntKind.signed]
theorem w32_sub (x y : UInt32) : IntKind.u32.wrap ((x.toNat : Int) - y.toNat) = ((x - y).toNat : Int) := by
  have h1 := x.toNat_lt
  have h2 := y.toNat_lt
  rw [UInt32.toNat_sub]; simp only [IntKind.wrap, IntKind.bits, IntKind.signed, Bool.false_and, Bool.false_eq_true, if_false]; omega
theorem w32_in {n : Int} (h : 0 ≤ n ∧ n < 2 ^ 32) : IntKind.u32.wrap n = n := by
  simp only [IntKind.wrap, IntKind.bits, IntKind.signed, Bool.false_and, Bool.false_eq_true, if_false]
  exact Int.emod_eq_of_lt h.1 h.2
theorem w32_nat (n : Nat) : IntKind.u32.wrap (n : Int) = ((UInt32.ofNat n).toNat : Int) := by
  rw [UInt32.toNat_ofNat']; simp [IntKind.wrap, IntKind.bits, IntKind.signed]
theorem w32_neg (x : UInt32) : IntKind.u32.wrap (0 - (x.toNat : Int)) = ((0 - x).toNat : Int) := by
  have := w32_sub 0 x
  simpa using this
theorem w32_and (x y : UInt32) : bits .and .u32 (x.toNat : Int) (y.toNat : Int) = ((x &&& y).toNat : Int) := by rw [u32_and_nat _ _ x.toNat_lt y.toNat_lt, UInt32.toNat_and]
theorem w32_or (x y : UInt32) : bits .or .u32 (x.toNat : Int) (y.toNat : Int) = ((x ||| y).toNat : Int) := by rw [u32_or_nat _ _ x.toNat_lt y.toNat_lt, UInt32.toNat_or]
theorem w32_xor (x y : UInt32) : bits .xor .u32 (x.toNat : Int) (y.toNat : Int) = ((x ^^^ y).toNat : Int) := by rw [u32_xor_nat _ _ x.toNat_lt y.toNat_lt, UInt32.toNat_xor]
theorem w32_lt (x : UInt32) : (x.toNat : Int) < 2 ^ 32 ∧ 0 ≤ (x.toNat : Int) := ⟨by have := x.toNat_lt; omega, by omega⟩
theorem i64_w32 (x : UInt32) (h : (x.toNat : Int) < 9223372036854775808 := by omega) : IntKind.i64.wrap (x.toNat : Int) = (x.toNat : Int) := IntWalk.i64_in _ (by omega)
theorem w32_eq (x y : UInt32) : ((x.toNat : Int) == (y.toNat : Int)) = (x == y) := by
  rw [Bool.eq_iff_iff]; simp only [beq_iff_eq]; constructor
  · intro h; exact UInt32.toNat_inj.1 (by omega)
  · intro h; rw [h]
theorem w64_add (x y : UInt64) : IntKind.u64.wrap ((x.toNat : Int) + y.toNat) = ((x + y).toNat : Int) := by
  rw [UInt64.toNat_add]; simp [IntKind.wrap, IntKind.bits, IntKind.signed]
theorem w64_mul (x y : UInt64) : IntKind.u64.wrap ((x.toNat : Int) * y.toNat) = ((x * y).toNat : Int) := by
  rw [UInt64.toNat_mul]; simp [IntKind.wrap, IntKind.bits, IntKind.signed]
theorem w64_sub (x y : UInt64) : IntKind.u64.wrap ((x.toNat : Int) - y.toNat) = ((x - y).toNat : Int) := by
  have h1 := x.toNat_lt
  have h2 := y.toNat_lt
  rw [UInt64.toNat_sub]; simp only [IntKind.wrap, IntKind.bits, IntKind.signed, Bool.false_and, Bool.false_eq_true, if_false]; omega
theorem w64_in {n : Int} (h : 0 ≤ n ∧ n < 2 ^ 64) : IntKind.u64.wrap n = n := by
  simp only [IntKind.wrap, IntKind.bits, IntKind.signed, Bool.false_and, Bool.false_eq_true, if_false]
  exact Int.emod_eq_of_lt h.1 h.2
theorem w64_nat (n : Nat) : IntKind.u64.wrap (n : Int) = ((UInt64.ofNat n).toNat : Int) := by
  rw [UInt64.toNat_ofNat']; simp [IntKind.wrap, IntKind.bits, IntKind.signed]
theorem w64_neg (x : UInt64) : IntKind.u64.wrap (0 - (x.toNat : Int)) = ((0 - x).toNat : Int) := by
  have := w64_sub 0 x
  simpa using this
theorem w64_and (x y : UInt64) : bits .and .u64 (x.toNat : Int) (y.toNat : Int) = ((x &&& y).toNat : Int) := by rw [u64_and_nat _ _ x.toNat_lt y.toNat_lt, UInt64.toNat_and]
theorem w64_or (x y : UInt64) : bits .or .u64 (x.toNat : Int) (y.toNat : Int) = ((x ||| y).toNat : Int) := by rw [u64_or_nat _ _ x.toNat_lt y.toNat_lt, UInt64.toNat_or]
theorem w64_xor (x y : UInt64) : bits .xor .u64 (x.toNat : Int) (y.toNat : Int) = ((x ^^^ y).toNat : Int) := by rw [u64_xor_nat _ _ x.toNat_lt y.toNat_lt, UInt64.toNat_xor]
theorem w64_lt (x : UInt64) : (x.toNat : Int) < 2 ^ 64 ∧ 0 ≤ (x.toNat : Int) := ⟨by have := x.toNat_lt; omega, by omega⟩
theorem i64_w64 (x : UInt64) (h : (x.toNat : Int) < 9223372036854775808 := by omega) : IntKind.i64.wrap (x.toNat : Int) = (x.toNat : Int) := IntWalk.i64_in _ (by omega)
theorem w64_eq (x y : UInt64) : ((x.toNat : Int) == (y.toNat : Int)) = (x == y) := by
  rw [Bool.eq_iff_iff]; simp only [beq_iff_eq]; constructor
  · intro h; exact UInt64.toNat_inj.1 (by omega)
  · intro h; rw [h]

theorem tdiv_nat (a b : Nat) : (a : Int).tdiv (b : Int) = ((a / b : Nat) : Int) := by
  rw [Int.tdiv_eq_ediv_of_nonneg (by omega)]; rfl
theorem rem_nat (a b : Nat) : (a : Int).tmod (b : Int) = ((a % b : Nat) : Int) := by
  rw [Int.tmod_eq_emod_of_nonneg (by omega)]; rfl
theorem quo_i64 (a b : Nat) (h : (a : Int) ≤ 9223372036854775807) : IntKind.i64.wrap ((a : Int).tdiv (b : Int)) = ((a / b : Nat) : Int) := by
  rw [tdiv_nat]; have := Nat.div_le_self a b; generalize a / b = c at *; exact IntWalk.i64_in _ (by omega)
theorem quo_u8 (a b : Nat) (h : (a : Int) < 2 ^ 8) : IntKind.u8.wrap ((a : Int).tdiv (b : Int)) = ((a / b : Nat) : Int) := by
  rw [tdiv_nat]; have := Nat.div_le_self a b; generalize a / b = c at *; exact w8_in (by omega)
theorem shl8_lit (x : UInt8) (n : Nat) (h : n < 8) : IntKind.u8.wrap ((x.toNat : Int) * 2 ^ (min (n : Int).toNat IntKind.u8.bits)) = ((x <<< (UInt8.ofNat n)).toNat : Int) := by
  have e : min (n : Int).toNat IntKind.u8.bits = n := by simp [IntKind.bits]; omega
  rw [e, UInt8.toNat_shiftLeft, UInt8.toNat_ofNat', Nat.mod_eq_of_lt (show n < 2 ^ 8 by omega), Nat.mod_eq_of_lt h, Nat.shiftLeft_eq]
  simp [IntKind.wrap, IntKind.bits, IntKind.signed]
/-- x << n, whatever n. -/
def shl8 (x : UInt8) (n : Nat) : UInt8 := UInt8.ofNat (x.toNat * 2 ^ (min n 8))
theorem shl8_any (x : UInt8) (n : Nat) : IntKind.u8.wrap ((x.toNat : Int) * 2 ^ (min (n : Int).toNat IntKind.u8.bits)) = ((shl8 x n).toNat : Int) := by
  rw [shl8, UInt8.toNat_ofNat']
  simp [IntKind.wrap, IntKind.bits, IntKind.signed]
theorem quo_u16 (a b : Nat) (h : (a : Int) < 2 ^ 16) : IntKind.u16.wrap ((a : Int).tdiv (b : Int)) = ((a / b : Nat) : Int) := by
  rw [tdiv_nat]; have := Nat.div_le_self a b; generalize a / b = c at *; exact w16_in (by omega)
theorem shl16_lit (x : UInt16) (n : Nat) (h : n < 16) : IntKind.u16.wrap ((x.toNat : Int) * 2 ^ (min (n : Int).toNat IntKind.u16.bits)) = ((x <<< (UInt16.ofNat n)).toNat : Int) := by
  have e : min (n : Int).toNat IntKind.u16.bits = n := by simp [IntKind.bits]; omega
  rw [e, UInt16.toNat_shiftLeft, UInt16.toNat_ofNat', Nat.mod_eq_of_lt (show n < 2 ^ 16 by omega), Nat.mod_eq_of_lt h, Nat.shiftLeft_eq]
  simp [IntKind.wrap, IntKind.bits, IntKind.signed]
/-- x << n, whatever n. -/
def shl16 (x : UInt16) (n : Nat) : UInt16 := UInt16.ofNat (x.toNat * 2 ^ (min n 16))
theorem shl16_any (x : UInt16) (n : Nat) : IntKind.u16.wrap ((x.toNat : Int) * 2 ^ (min (n : Int).toNat IntKind.u16.bits)) = ((shl16 x n).toNat : Int) := by
  rw [shl16, UInt16.toNat_ofNat']
  simp [IntKind.wrap, IntKind.bits, IntKind.signed]
theorem quo_u32 (a b : Nat) (h : (a : Int) < 2 ^ 32) : IntKind.u32.wrap ((a : Int).tdiv (b : Int)) = ((a / b : Nat) : Int) := by
  rw [tdiv_nat]; have := Nat.div_le_self a b; generalize a / b = c at *; exact w32_in (by omega)
theorem shl32_lit (x : UInt32) (n : Nat) (h : n < 32) : IntKind.u32.wrap ((x.toNat : Int) * 2 ^ (min (n : Int).toNat IntKind.u32.bits)) = ((x <<< (UInt32.ofNat n)).toNat : Int) := by
  have e : min (n : Int).toNat IntKind.u32.bits = n := by simp [IntKind.bits]; omega
  rw [e, UInt32.toNat_shiftLeft, UInt32.toNat_ofNat', Nat.mod_eq_of_lt (show n < 2 ^ 32 by omega), Nat.mod_eq_of_lt h, Nat.shiftLeft_eq]
  simp [IntKind.wrap, IntKind.bits, IntKind.signed]
/-- x << n, whatever n. -/
def shl32 (x : UInt32) (n : Nat) : UInt32 := UInt32.ofNat (x.toNat * 2 ^ (min n 32))
theorem shl32_any (x : UInt32) (n : Nat) : IntKind.u32.wrap ((x.toNat : Int) * 2 ^ (min (n : Int).toNat IntKind.u32.bits)) = ((shl32 x n).toNat : Int) := by
  rw [shl32, UInt32.toNat_ofNat']
  simp [IntKind.wrap, IntKind.bits, IntKind.signed]
theorem quo_u64 (a b : Nat) (h : (a : Int) < 2 ^ 64) : IntKind.u64.wrap ((a : Int).tdiv (b : Int)) = ((a / b : Nat) : Int) := by
  rw [tdiv_nat]; have := Nat.div_le_self a b; generalize a / b = c at *; exact w64_in (by omega)
theorem shl64_lit (x : UInt64) (n : Nat) (h : n < 64) : IntKind.u64.wrap ((x.toNat : Int) * 2 ^ (min (n : Int).toNat IntKind.u64.bits)) = ((x <<< (UInt64.ofNat n)).toNat : Int) := by
  have e : min (n : Int).toNat IntKind.u64.bits = n := by simp [IntKind.bits]; omega
  rw [e, UInt64.toNat_shiftLeft, UInt64.toNat_ofNat', Nat.mod_eq_of_lt (show n < 2 ^ 64 by omega), Nat.mod_eq_of_lt h, Nat.shiftLeft_eq]
  simp [IntKind.wrap, IntKind.bits, IntKind.signed]
/-- x << n, whatever n. -/
def shl64 (x : UInt64) (n : Nat) : UInt64 := UInt64.ofNat (x.toNat * 2 ^ (min n 64))
theorem shl64_any (x : UInt64) (n : Nat) : IntKind.u64.wrap ((x.toNat : Int) * 2 ^ (min (n : Int).toNat IntKind.u64.bits)) = ((shl64 x n).toNat : Int) := by
  rw [shl64, UInt64.toNat_ofNat']
  simp [IntKind.wrap, IntKind.bits, IntKind.signed]
theorem shr_nat (a n m : Nat) (h : 2 ^ (min n 64) = m) : (a : Int).fdiv (2 ^ (min (n : Int).toNat IntKind.i64.bits)) = ((a / m : Nat) : Int) := by
  subst h
  rw [Int.fdiv_eq_ediv_of_nonneg _ (Int.pow_nonneg (by decide))]
  simp [IntKind.bits]
theorem shr_any (a n : Nat) (h : n ≤ 64) : (a : Int).fdiv (2 ^ (min (n : Int).toNat IntKind.i64.bits)) = ((a / 2 ^ n : Nat) : Int) := by
  have e : min (n : Int).toNat IntKind.i64.bits = n := by simp [IntKind.bits]; omega
  rw [e, Int.fdiv_eq_ediv_of_nonneg _ (Int.pow_nonneg (by decide))]
  simp
theorem shl_one (n : Nat) (h : n ≤ 62) : IntKind.i64.wrap ((1 : Int) * 2 ^ (min (n : Int).toNat IntKind.i64.bits)) = ((2 ^ n : Nat) : Int) := by
  have e : min (n : Int).toNat IntKind.i64.bits = n := by simp [IntKind.bits]; omega
  have h2 : 2 ^ n ≤ 2 ^ 62 := Nat.pow_le_pow_right (by decide) h
  have e2 : (2 : Int) ^ n = ((2 ^ n : Nat) : Int) := by simp
  rw [e, Int.one_mul, e2]
  generalize 2 ^ n = m at h2
  exact IntWalk.i64_in _ (by omega)
theorem eq_nats (a b : Nat) : ((a : Int) == (b : Int)) = (a == b) := by
  rw [Bool.eq_iff_iff]; simp only [beq_iff_eq]; omega
section
variable {P : Program} {w : World} {ρ : Operand → Value} {o : Oper} {t t' : TypeId} {x y : Operand} {k : IntKind} {a b c : Int}
theorem vb {p q : Bool} (h : (execOp ρ o).run P w = .ok (.value (.bool p)) w) (e : p = q) : (execOp ρ o).run P w = .ok (.value (.bool q)) w := e ▸ h
theorem vv {p q : Value} (h : (execOp ρ o).run P w = .ok (.value p) w) (e : p = q) : (execOp ρ o).run P w = .ok (.value q) w := e ▸ h
theorem e_add (hop : o.op = .binOp .add t x y t') (hx : ρ x = .int k a) (hy : ρ y = .int k b) (hw : k.wrap (a + b) = c) : (execOp ρ o).run P w = .ok (.value (.int k c)) w := by
  unfold execOp; simp [hop, hx, hy, eqGuard, binOp, Op.intArith, hw]
theorem e_sub (hop : o.op = .binOp .sub t x y t') (hx : ρ x = .int k a) (hy : ρ y = .int k b) (hw : k.wrap (a - b) = c) : (execOp ρ o).run P w = .ok (.value (.int k c)) w := by
  unfold execOp; simp [hop, hx, hy, eqGuard, binOp, Op.intArith, hw]
theorem e_mul (hop : o.op = .binOp .mul t x y t') (hx : ρ x = .int k a) (hy : ρ y = .int k b) (hw : k.wrap (a * b) = c) : (execOp ρ o).run P w = .ok (.value (.int k c)) w := by
  unfold execOp; simp [hop, hx, hy, eqGuard, binOp, Op.intArith, hw]
theorem e_quo (hop : o.op = .binOp .quo t x y t') (hx : ρ x = .int k a) (hy : ρ y = .int k b) (h0 : b ≠ 0) (hw : k.wrap (a.tdiv b) = c) : (execOp ρ o).run P w = .ok (.value (.int k c)) w := by
  unfold execOp; simp [hop, hx, hy, eqGuard, binOp, Op.intDiv, hw, h0]
theorem e_rem (hop : o.op = .binOp .rem t x y t') (hx : ρ x = .int k a) (hy : ρ y = .int k b) (h0 : b ≠ 0) (hw : a.tmod b = c) : (execOp ρ o).run P w = .ok (.value (.int k c)) w := by
  unfold execOp; simp [hop, hx, hy, eqGuard, binOp, Op.intDiv, hw, h0]
theorem e_and (hop : o.op = .binOp .and t x y t') (hx : ρ x = .int k a) (hy : ρ y = .int k b) (hw : bits .and k a b = c) : (execOp ρ o).run P w = .ok (.value (.int k c)) w := by
  subst hw; unfold execOp; simp [hop, hx, hy, eqGuard, binOp, Op.intBits, bits]
theorem e_or (hop : o.op = .binOp .or t x y t') (hx : ρ x = .int k a) (hy : ρ y = .int k b) (hw : bits .or k a b = c) : (execOp ρ o).run P w = .ok (.value (.int k c)) w := by
  subst hw; unfold execOp; simp [hop, hx, hy, eqGuard, binOp, Op.intBits, bits]
theorem e_xor (hop : o.op = .binOp .xor t x y t') (hx : ρ x = .int k a) (hy : ρ y = .int k b) (hw : bits .xor k a b = c) : (execOp ρ o).run P w = .ok (.value (.int k c)) w := by
  subst hw; unfold execOp; simp [hop, hx, hy, eqGuard, binOp, Op.intBits, bits]
theorem e_andNot (hop : o.op = .binOp .andNot t x y t') (hx : ρ x = .int k a) (hy : ρ y = .int k b) (hw : bits .andNot k a b = c) : (execOp ρ o).run P w = .ok (.value (.int k c)) w := by
  subst hw; unfold execOp; simp [hop, hx, hy, eqGuard, binOp, Op.intBits, bits]
theorem e_shl {k' : IntKind} (hop : o.op = .binOp .shl t x y t') (hx : ρ x = .int k a) (hy : ρ y = .int k' b) (hb : 0 ≤ b) (hw : k.wrap (a * 2 ^ (min b.toNat k.bits)) = c) : (execOp ρ o).run P w = .ok (.value (.int k c)) w := by
  have : ¬ b < 0 := by omega
  unfold execOp; simp [hop, hx, hy, eqGuard, binOp, Op.shift, hw, this]
theorem e_shr {k' : IntKind} (hop : o.op = .binOp .shr t x y t') (hx : ρ x = .int k a) (hy : ρ y = .int k' b) (hb : 0 ≤ b) (hw : a.fdiv (2 ^ (min b.toNat k.bits)) = c) : (execOp ρ o).run P w = .ok (.value (.int k c)) w := by
  have : ¬ b < 0 := by omega
  unfold execOp; simp [hop, hx, hy, eqGuard, binOp, Op.shift, hw, this]
theorem e_conv {src dst : TypeId} {k' : IntKind} (hop : o.op = .convert src dst x) {d : TypeDesc} (hs : P.underlying src = some d) (hd : P.underlying dst = some (.int k)) (hx : ρ x = .int k' a) (hw : k.wrap a = c) : (execOp ρ o).run P w = .ok (.value (.int k c)) w := by
  unfold execOp; simp [hop, hx, convert, run_underlying hs, run_underlying hd, Conv.intToInt, hw]

/-! ### Strings -/
theorem len_bstr (l : List UInt8) : (bstr l).size = l.length := bstr_size l
theorem e_len (ty : TypeId) (hop : o.op = .call { callee := .builtin .len, args := #[x], argTypes := #[ty] }) (hu : P.underlying ty = some .string) {l : List UInt8} (hx : ρ x = .string (bstr l)) : (execOp ρ o).run P w = .ok (.value (.int .i64 (l.length : Int))) w := by
  unfold execOp
  simp [hop, hx, resolve, invoke, builtin, Builtin.len_, run_underlying hu, Builtin.lenOf, bstr_size, goInt]
theorem e_cat (hop : o.op = .binOp .add t x y t') {l m : List UInt8} (hx : ρ x = .string (bstr l)) (hy : ρ y = .string (bstr m)) (hb : l.length + m.length ≤ 9223372036854775807) : (execOp ρ o).run P w = .ok (.value (.string (bstr (l ++ m)))) w := by
  have h1 : ¬ (((bstr l).size + (bstr m).size : Nat) : Int) > IntKind.i64.max := by
    rw [bstr_size, bstr_size]
    show ¬ _ > (9223372036854775807 : Int)
    omega
  unfold execOp; simp only [hop, hx, hy, eqGuard, binOp, Op.stringOp]
  simp [bstr_append]
  rw [bstr_size, bstr_size]
  omega
theorem e_seq (hop : o.op = .binOp .eql t x y t') {l m : List UInt8} (hx : ρ x = .string (bstr l)) (hy : ρ y = .string (bstr m)) : (execOp ρ o).run P w = .ok (.value (.bool (l == m))) w := by
  unfold execOp; simp [hop, hx, hy, eqGuard, binOp, Op.stringOp, bstr_toList]
theorem e_sne (hop : o.op = .binOp .neq t x y t') {l m : List UInt8} (hx : ρ x = .string (bstr l)) (hy : ρ y = .string (bstr m)) : (execOp ρ o).run P w = .ok (.value (.bool (!(l == m)))) w := by
  unfold execOp; simp [hop, hx, hy, eqGuard, binOp, Op.stringOp, bstr_toList]
theorem e_ixs {l : List UInt8} {i : Nat} (hop : o.op = .index t x y) (hu : P.underlying t = some .string) (hx : ρ x = .string (bstr l)) (hy : ρ y = .int k (i : Int)) (hi : i < l.length) :
    (execOp ρ o).run P w = .ok (.value (.int .u8 ((l.getD i 0).toNat : Int))) w := by
  have h1 : (bstr l)[(i : Int).toNat]? = some (l.getD i 0) := by
    have hb : (i : Int).toNat < (bstr l).size := by rw [bstr_size]; simpa using hi
    rw [getElem?_pos (bstr l) _ hb]
    congr 1
    show l.toArray[(i : Int).toNat]'_ = _
    simp [List.getD, hi]
  unfold execOp
  simp [hop, hx, hy, Instr.index, asIntOf, run_underlying hu]
  rw [show (bstr l)[i]? = some (l.getD i 0) from by simpa using h1]
  simp [List.getD]

theorem ex_take (l : List UInt8) (n : Nat) : (bstr l).extract 0 n = bstr (l.take n) := by
  apply ByteArray.ext
  simp [bstr, ByteArray.data_extract]
theorem ex_both (l : List UInt8) (i n : Nat) : (bstr l).extract i n = bstr ((l.take n).drop i) := by
  apply ByteArray.ext
  simp [bstr, ByteArray.data_extract, List.drop_take]
theorem ex_drop (l : List UInt8) (n : Nat) : (bstr l).extract n l.length = bstr (l.drop n) := by
  rw [ex_both, List.take_length]
theorem run_bound (P : Program) (w : World) (k : IntKind) (i y : Nat) (code : BoundsCode) (h : i ≤ y) : (Instr.sliceBound (.int k (i : Int)) y code).run P w = .ok i w := by
  simp [Instr.sliceBound, asIntOf, h]
theorem run_bounds (P : Program) (w : World) (isS : Bool) (len cap : Nat) (lo hi : Option Value) (i j : Nat) (hlo : (∃ k, lo = some (.int k (i : Int))) ∨ lo = none ∧ i = 0) (hhi : (∃ k, hi = some (.int k (j : Int))) ∨ hi = none ∧ j = len) (h1 : i ≤ j) (h2 : j ≤ cap) :
    (Instr.sliceBounds isS len cap lo hi none).run P w = .ok (i, j, cap) w := by
  rcases hlo with ⟨k, rfl⟩ | ⟨rfl, rfl⟩ <;> rcases hhi with ⟨k', rfl⟩ | ⟨rfl, rfl⟩ <;> simp [Instr.sliceBounds, run_bound, h1, h2]
/-- s[i:j]. -/
theorem e_sls {l : List UInt8} {lo hi : Option Operand} (hop : o.op = .slice t x lo hi none) (hu : P.underlying t = some .string) (hx : ρ x = .string (bstr l)) (i j : Nat)
    (hlo : (∃ k, lo.map ρ = some (.int k (i : Int))) ∨ lo.map ρ = none ∧ i = 0) (hhi : (∃ k, hi.map ρ = some (.int k (j : Int))) ∨ hi.map ρ = none ∧ j = l.length) (h1 : i ≤ j) (h2 : j ≤ l.length) (m : List UInt8) (hm : (l.take j).drop i = m) :
    (execOp ρ o).run P w = .ok (.value (.string (bstr m))) w := by
  have hb := run_bounds P w false l.length l.length (lo.map ρ) (hi.map ρ) i j hlo hhi h1 h2
  subst hm
  rw [← ex_both]
  unfold execOp
  simp [hop, hx, Instr.sliceAt, run_underlying hu, Instr.slice, bstr_size, hb]
/-- xs[i:j], xs a slice. -/
theorem e_sll {e : TypeId} {size : Nat} {ao : Option Addr} {n cap : Nat} {lo hi : Option Operand} (hop : o.op = .slice t x lo hi none) (hu : P.underlying t = some (.slice e)) (hs : (P.info? e).map (·.size) = some size) (hx : ρ x = .slice ao n cap) (i j : Nat)
    (hlo : (∃ k, lo.map ρ = some (.int k (i : Int))) ∨ lo.map ρ = none ∧ i = 0) (hhi : (∃ k, hi.map ρ = some (.int k (j : Int))) ∨ hi.map ρ = none ∧ j = n) (h1 : i ≤ j) (h2 : j ≤ cap) (ao' : Option Addr) (ha : (if cap = i then ao else ao.map (·.add (i * size))) = ao')
    (n' : Nat) (hn : j - i = n') (cap' : Nat) (hc : cap - i = cap') :
    (execOp ρ o).run P w = .ok (.value (.slice ao' n' cap')) w := by
  have hb := run_bounds P w true n cap (lo.map ρ) (hi.map ρ) i j hlo hhi h1 h2
  subst ha hn hc
  cases hq : P.info? e with
  | none => simp [hq] at hs
  | some inf =>
    have hs' : inf.size = size := by simpa [hq] using hs
    unfold execOp
    simp [hop, hx, Instr.sliceAt, run_underlying hu, Instr.slice, hb, sizeOf, typeInfo, hq, hs']
/-- a[i:j], a an array in memory. -/
theorem add_at (b off n : Nat) : (⟨b, off, none⟩ : Addr).add n = ⟨b, off + n, none⟩ := by unfold Addr.add; split <;> simp_all
theorem e_sla {e : TypeId} {size m : Nat} {b off : Nat} {lo hi : Option Operand} (hop : o.op = .slice t x lo hi none) (hu : P.underlying t = some (.array m e)) (hs : (P.info? e).map (·.size) = some size) (hx : ρ x = .pointer (some ⟨b, off, none⟩)) (i j : Nat)
    (hlo : (∃ k, lo.map ρ = some (.int k (i : Int))) ∨ lo.map ρ = none ∧ i = 0) (hhi : (∃ k, hi.map ρ = some (.int k (j : Int))) ∨ hi.map ρ = none ∧ j = m) (h1 : i ≤ j) (h2 : j ≤ m) (off' : Nat) (ha : (if m = i then off else off + i * size) = off')
    (n' : Nat) (hn : j - i = n') (cap' : Nat) (hc : m - i = cap') :
    (execOp ρ o).run P w = .ok (.value (.slice (some ⟨b, off', none⟩) n' cap')) w := by
  have hb := run_bounds P w false m m (lo.map ρ) (hi.map ρ) i j hlo hhi h1 h2
  subst ha hn hc
  cases hq : P.info? e with
  | none => simp [hq] at hs
  | some inf =>
    have hs' : inf.size = size := by simpa [hq] using hs
    unfold execOp
    simp only [hop, hx, Instr.sliceAt, run_underlying hu, Instr.sureAddr, sizeOf, typeInfo, hq, hs', Sem.run_bind, Sem.run_pure, Result.andThen_ok, Sem.run_map, run_program, hb, add_at]
    have hb' := hb
    by_cases hm : m = i
    · subst hm; simp [hb']
    · simp [hm, hb']
theorem e_ixa {e : TypeId} {size m b off i off' : Nat} (hop : o.op = .indexAddr t x y) (hu : P.underlying t = some (.array m e)) (hs : (P.info? e).map (·.size) = some size) (hx : ρ x = .pointer (some ⟨b, off, none⟩)) (hy : ρ y = .int k (i : Int)) (hi : i < m) (ho : off + i * size = off') :
    (execOp ρ o).run P w = .ok (.value (.pointer (some ⟨b, off', none⟩))) w := by
  subst ho
  cases hq : P.info? e with
  | none => simp [hq] at hs
  | some inf =>
    have hs' : inf.size = size := by simpa [hq] using hs
    have hi' : (0 : Int) ≤ i ∧ (i : Int) < (m : Int) := by omega
    unfold execOp
    simp [hop, hx, hy, Instr.indexAt, asIntOf, run_underlying hu, Instr.sureAddr, hi, sizeOf, typeInfo, hq, hs', add_at]
theorem e_ixl {e : TypeId} {size n cap b off i off' : Nat} (hop : o.op = .indexAddr t x y) (hu : P.underlying t = some (.slice e)) (hs : (P.info? e).map (·.size) = some size) (hx : ρ x = .slice (some ⟨b, off, none⟩) n cap) (hy : ρ y = .int k (i : Int)) (hi : i < n) (ho : off + i * size = off') :
    (execOp ρ o).run P w = .ok (.value (.pointer (some ⟨b, off', none⟩))) w := by
  subst ho
  cases hq : P.info? e with
  | none => simp [hq] at hs
  | some inf =>
    have hs' : inf.size = size := by simpa [hq] using hs
    unfold execOp
    simp [hop, hx, hy, Instr.indexAt, asIntOf, run_underlying hu, Instr.sureAddr, hi, sizeOf, typeInfo, hq, hs', add_at]
theorem add_fld (b off n off' : Nat) (h : off + n = off') : (⟨b, off, none⟩ : Addr).add n = ⟨b, off', none⟩ := by rw [add_at, h]
theorem e_fa {b off off' : Nat} {f : Nat} {fields : Array Field} {g : Field} (hop : o.op = .fieldAddr t x f) (hu : P.underlying t = some (.struct fields)) (hf : fields[f]? = some g) (n : Nat) (hs : (P.info? g.type).map (·.size) = some n) (hn : n ≠ 0) (hx : ρ x = .pointer (some ⟨b, off, none⟩)) (ho : off + g.offset = off') :
    (execOp ρ o).run P w = .ok (.value (.pointer (some ⟨b, off', none⟩))) w := by
  subst ho
  cases hq : P.info? g.type with
  | none => simp [hq] at hs
  | some inf =>
    have hs' : inf.size = n := by simpa [hq] using hs
    unfold execOp
    simp [hop, hx, Instr.fieldAt, run_underlying hu, hf, Instr.sureAddr, fieldPlace, sizeOf, typeInfo, hq, hs', hn, add_at]
/-- An element of an array by value, or a field of a struct by value, of one cell. -/
theorem e_ixr {e : TypeId} {m i : Nat} {cs : List Value} (hop : o.op = .index t x y) (hu : P.underlying t = some (.array m e)) (hs : (P.info? e).map (·.size) = some 1) (hag : ∀ w, (isAgg e).run P w = .ok false w) (hx : ρ x = .agg cs.toArray) (hy : ρ y = .int k (i : Int)) (hi : i < m) (v : Value) (hv : cs[i]? = some v) :
    (execOp ρ o).run P w = .ok (.value v) w := by
  cases hq : P.info? e with
  | none => simp [hq] at hs
  | some inf =>
    have hs' : inf.size = 1 := by simpa [hq] using hs
    unfold execOp
    simp [hop, hx, hy, Instr.index, asIntOf, run_underlying hu, hi, sizeOf, typeInfo, hq, hs', part, hag, hv]
theorem e_f1 {f : Nat} {fields : Array Field} {g : Field} {cs : List Value} (hop : o.op = .field t x f) (hu : P.underlying t = some (.struct fields)) (hf : fields[f]? = some g) (hag : ∀ w, (isAgg g.type).run P w = .ok false w) (hx : ρ x = .agg cs.toArray) (v : Value) (hv : cs[g.offset]? = some v) :
    (execOp ρ o).run P w = .ok (.value v) w := by
  unfold execOp
  simp [hop, hx, Instr.field, run_underlying hu, hf, asAgg, part, hag, hv]
theorem e_fn {f : Nat} {fields : Array Field} {g : Field} {cs : List Value} (hop : o.op = .field t x f) (hu : P.underlying t = some (.struct fields)) (hf : fields[f]? = some g) (hag : ∀ w, (isAgg g.type).run P w = .ok true w) (n : Nat) (hs : (P.info? g.type).map (·.size) = some n) (hx : ρ x = .agg cs.toArray)
    (pre mid post : List Value) (hcs : cs = pre ++ (mid ++ post)) (hp : pre.length = g.offset) (hm : mid.length = n) :
    (execOp ρ o).run P w = .ok (.value (.agg mid.toArray)) w := by
  subst hcs
  cases hq : P.info? g.type with
  | none => simp [hq] at hs
  | some inf =>
    have hs' : inf.size = n := by simpa [hq] using hs
    have he : (pre ++ (mid ++ post)).toArray.extract g.offset (g.offset + n) = mid.toArray := by
      rw [← hp, ← hm]
      simp
    unfold execOp
    simp only [hop, hx, Instr.field, run_underlying hu, hf, asAgg, part, hag, sizeOf, typeInfo, hq, hs', Sem.run_bind, Sem.run_pure, Result.andThen_ok, if_true, run_program, he, Sem.run_map]
/-- string(b), b a slice of bytes; or of a part of one. -/
theorem e_bs {src dst e : TypeId} {l : List UInt8} {b n cap : Nat} (hop : o.op = .convert src dst x) (hs : P.underlying src = some (.slice e)) (he : P.underlying e = some (.int .u8)) (hd : P.underlying dst = some .string) (hx : ρ x = .slice (some ⟨b, 0, none⟩) n cap)
    (hr : Row w b 0 (cellsOf l)) (hn : l.length = n) : (execOp ρ o).run P w = .ok (.value (.string (bstr l))) w := by
  subst hn
  have h1 : (convert src dst (.slice (some ⟨b, 0, none⟩) l.length cap)).run P w = .ok (.string (bstr l)) w := by
    have hr' := run_convert_bytes_arg (P := P) w src e hs he b 0 l.length cap (l.map fun c => (c.toNat : Int)) (by simp) (fun i hi => by
      have := hr.cell0 (i := i) (v := .int .u8 ((l.getD i 0).toNat : Int)) (by simp [cellsOf, List.getD, hi])
      rw [Nat.zero_add, this]
      simp [List.getD, hi]) dst hd
    rw [hr']
    simp [strOfNums, bstr, Function.comp_def]
  unfold execOp
  simp only [hop, hx, Sem.run_bind, h1, Result.andThen_ok, Sem.run_pure]
theorem e_bss {src dst e : TypeId} {l : List UInt8} {ao : Option Addr} {n cap : Nat} {g : Option Nat} (hop : o.op = .convert src dst x) (hs : P.underlying src = some (.slice e)) (he : P.underlying e = some (.int .u8)) (hd : P.underlying dst = some .string) (hx : ρ x = .slice ao n cap)
    (hr : Srow w 1 ao n cap (cellsOf l) g) : (execOp ρ o).run P w = .ok (.value (.string (bstr l))) w := by
  have h1 := hr.to_string (P := P) hs he hd
  unfold execOp
  simp only [hop, hx, Sem.run_bind, h1, Result.andThen_ok, Sem.run_pure]
/-- Two arrays of bytes. -/
theorem e_aeq {e : TypeId} {n : Nat} {l m : List UInt8} (hop : o.op = .binOp .eql t x y t') (ht : P.underlying t = some (.array n e)) (he : P.underlying e = some (.int .u8)) (hs : ∀ w, (sizeOf e).run P w = .ok 1 w) (hg : P.eqGuardType P.depth t = false) (hx : ρ x = .agg (cellsOf l).toArray) (hy : ρ y = .agg (cellsOf m).toArray) (hl : l.length = n) (hm : m.length = n) :
    (execOp ρ o).run P w = .ok (.value (.bool (l == m))) w := by
  have h1 : (Op.equalIn 10000 t (.agg (cellsOf l).toArray) (.agg (cellsOf m).toArray)).run P w = .ok (l == m) w := run_equalIn_bytes w 9998 t e n ht he hs l m hl hm
  have h2 : (Op.equal t (.agg (cellsOf l).toArray) (.agg (cellsOf m).toArray)).run P w = .ok (l == m) w := h1
  unfold execOp
  simp only [hop, hx, hy, eqGuard, binOp, Sem.run_bind, run_program, Result.andThen_ok, hg, h2, Sem.run_pure]
  simp [hg, h2]
theorem e_ane {e : TypeId} {n : Nat} {l m : List UInt8} (hop : o.op = .binOp .neq t x y t') (ht : P.underlying t = some (.array n e)) (he : P.underlying e = some (.int .u8)) (hs : ∀ w, (sizeOf e).run P w = .ok 1 w) (hg : P.eqGuardType P.depth t = false) (hx : ρ x = .agg (cellsOf l).toArray) (hy : ρ y = .agg (cellsOf m).toArray) (hl : l.length = n) (hm : m.length = n) :
    (execOp ρ o).run P w = .ok (.value (.bool (!(l == m)))) w := by
  have h1 : (Op.equalIn 10000 t (.agg (cellsOf l).toArray) (.agg (cellsOf m).toArray)).run P w = .ok (l == m) w := run_equalIn_bytes w 9998 t e n ht he hs l m hl hm
  have h2 : (Op.equal t (.agg (cellsOf l).toArray) (.agg (cellsOf m).toArray)).run P w = .ok (l == m) w := h1
  unfold execOp
  simp only [hop, hx, hy, eqGuard, binOp, Sem.run_bind, run_program, Result.andThen_ok, hg, h2, Sem.run_pure]
  simp [hg, h2]
theorem getcell {l : List UInt8} {i : Nat} (h : i < l.length) : (cellsOf l)[i]? = some (.int .u8 ((l.getD i 0).toNat : Int)) := by simp [cellsOf, List.getD, h]
theorem setcell (l : List UInt8) (i : Nat) (c : UInt8) : (cellsOf l).set i (.int .u8 (c.toNat : Int)) = cellsOf (l.set i c) := by simp [cellsOf, List.map_set]

theorem e_neg (hop : o.op = .unOp .neg t x) (hx : ρ x = .int k a) (hw : k.wrap (0 - a) = c) : (execOp ρ o).run P w = .ok (.value (.int k c)) w := by
  subst hw; unfold execOp; simp [hop, hx, Op.unary, Op.intArith]
theorem pick_and {z : Operand} {p q : Bool} (hop : o.op = .pick x y z) (hx : ρ x = .bool p) (hy : ρ y = .bool q) (hz : ρ z = .bool false) : (execOp ρ o).run P w = .ok (.value (.bool (p && q))) w := by
  unfold execOp; cases p <;> simp [hop, hx, hy, hz, asBool]
theorem pick_or {z : Operand} {p q : Bool} (hop : o.op = .pick x y z) (hx : ρ x = .bool p) (hy : ρ y = .bool true) (hz : ρ z = .bool q) : (execOp ρ o).run P w = .ok (.value (.bool (p || q))) w := by
  unfold execOp; cases p <;> simp [hop, hx, hy, hz, asBool]
theorem e_min {ts : Array TypeId} (hop : o.op = .call { callee := .builtin .min, args := #[x, y], argTypes := ts }) (hx : ρ x = .int k a) (hy : ρ y = .int k b) (hc : (if b < a then b else a) = c) : (execOp ρ o).run P w = .ok (.value (.int k c)) w := by
  subst hc; unfold execOp
  simp [hop, hx, hy, resolve, invoke, builtin, Builtin.min_, Builtin.min2]
theorem min_nat (a b : Nat) : (if (b : Int) < (a : Int) then (b : Int) else (a : Int)) = ((min a b : Nat) : Int) := by
  simp only [Nat.min_def]; split <;> split <;> omega
theorem beq_swap {α : Type} [BEq α] [LawfulBEq α] (p q : α) : ((p == q) == (q == p)) = true := by
  rw [beq_iff_eq, Bool.eq_iff_iff]; simp only [beq_iff_eq]; exact eq_comm
/-- A list with a bit turned. -/
theorem flip_ne (l : List UInt8) (i : Nat) (h : i < l.length) (m : UInt8) (hm : m ≠ 0) : (l == l.set i (l.getD i 0 ^^^ m)) = false := by
  rw [beq_eq_false_iff_ne]
  intro e
  have h1 : l[i]? = (l.set i (l.getD i 0 ^^^ m))[i]? := by rw [← e]
  rw [List.getElem?_set_self h, List.getElem?_eq_getElem h] at h1
  have h2 : l.getD i 0 = l[i] := by rw [List.getD_eq_getElem?_getD, List.getElem?_eq_getElem h]; rfl
  rw [h2] at h1
  have h3 : l[i] = l[i] ^^^ m := Option.some.inj h1
  apply hm
  have h4 : l[i] ^^^ l[i] = l[i] ^^^ (l[i] ^^^ m) := by rw [← h3]
  rw [← UInt8.xor_assoc, UInt8.xor_self, UInt8.zero_xor] at h4
  exact h4.symm
theorem shl8_ne (n : Nat) (h : n < 8) : shl8 1 n ≠ 0 := by
  have : n = 0 ∨ n = 1 ∨ n = 2 ∨ n = 3 ∨ n = 4 ∨ n = 5 ∨ n = 6 ∨ n = 7 := by omega
  rcases this with rfl | rfl | rfl | rfl | rfl | rfl | rfl | rfl <;> decide
theorem u8_of (n : Int) (h : 0 ≤ n ∧ n < 2 ^ 8) : ∃ z : UInt8, n = (z.toNat : Int) := ⟨UInt8.ofNat n.toNat, by
  rw [UInt8.toNat_ofNat', Nat.mod_eq_of_lt (by omega)]; omega⟩
theorem u16_of (n : Int) (h : 0 ≤ n ∧ n < 2 ^ 16) : ∃ z : UInt16, n = (z.toNat : Int) := ⟨UInt16.ofNat n.toNat, by
  rw [UInt16.toNat_ofNat', Nat.mod_eq_of_lt (by omega)]; omega⟩
theorem u32_of (n : Int) (h : 0 ≤ n ∧ n < 2 ^ 32) : ∃ z : UInt32, n = (z.toNat : Int) := ⟨UInt32.ofNat n.toNat, by
  rw [UInt32.toNat_ofNat', Nat.mod_eq_of_lt (by omega)]; omega⟩
theorem u64_of (n : Int) (h : 0 ≤ n ∧ n < 2 ^ 64) : ∃ z : UInt64, n = (z.toNat : Int) := ⟨UInt64.ofNat n.toNat, by
  rw [UInt64.toNat_ofNat', Nat.mod_eq_of_lt (by omega)]; omega⟩
end
end Go.Proofs.YtomalanncdcopaaDoor.St
