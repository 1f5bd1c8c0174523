/- What the reference of layer 2 reckons, in words. -/
import Derived.Test.YtomalanncdcopaaDoorDig1
import Derived.WalkKit
set_option linter.unusedSimpArgs false
set_option linter.unusedVariables false
namespace Go.Proofs.YtomalanncdcopaaDoor.Dig
open Go Go.RowKit Go.Proofs.YtomalanncdcopaaDoor.Mem

def wv64 (x : Word) : Value := .int .u64 (wn x)
def wcells64 (l : List Word) : List Value := l.map wv64
theorem wcells64_length (l : List Word) : (wcells64 l).length = l.length := by simp [wcells64]
theorem wcells64_get {l : List Word} {i : Nat} (h : i < l.length) : (wcells64 l)[i]? = some (.int .u64 (wn (wat l i))) := by
  simp [wcells64, wv64, wat, List.getD, h]
theorem wcells64_set (l : List Word) (i : Nat) (x : Word) : (wcells64 l).set i (.int .u64 (wn x)) = wcells64 (l.set i x) := by
  simp [wcells64, wv64, List.map_set]
theorem wcells64_one (l : List Word) : ∀ u ∈ wcells64 l, u.oneCell' = true := by
  intro u hu
  simp only [wcells64, List.mem_map] at hu
  obtain ⟨c, _, rfl⟩ := hu
  rfl
theorem v_xor (x y : Word) : bits .xor .u64 (wn x) (wn y) = wn (x ^^^ y) := by
  unfold wn
  rw [u64_xor_nat _ _ (by have := x.isLt; omega) (by have := y.isLt; omega), BitVec.toNat_xor]
theorem v_and (x y : Word) : bits .and .u64 (wn x) (wn y) = wn (x &&& y) := by
  unfold wn
  rw [u64_and_nat _ _ (by have := x.isLt; omega) (by have := y.isLt; omega), BitVec.toNat_and]
theorem v_not (x : Word) : (4294967295 : Int) - wn x = wn (~~~x) := by
  unfold wn
  have := x.isLt
  rw [BitVec.toNat_not]
  omega
theorem v_wrap (x : Word) : IntKind.u64.wrap (wn x) = wn x := by obtain ⟨h1, h2⟩ := wn_bd x; exact IntWalk.u64_in _ (by omega)
theorem w_wrap (x : Word) : IntKind.u32.wrap (wn x) = wn x := by obtain ⟨h1, h2⟩ := wn_bd x; exact IntWalk.u32_in _ (by omega)
theorem w_mod (x : Word) : wn x % 4294967296 = wn x := by obtain ⟨h1, h2⟩ := wn_bd x; omega
theorem rr_one (x : Word) : wn x / 2 + wn x % 2 * 2147483648 = wn (rr x 1) := by
  have h1 : (rr x 1).toNat = x.toNat / 2 + x.toNat % 2 * 2147483648 := by
    unfold rr
    rw [BitVec.rotateRight_def]
    simp only [show 1 % 32 = 1 from rfl, show 32 - 1 = 31 from rfl]
    rw [BitVec.toNat_or, BitVec.toNat_ushiftRight, BitVec.toNat_shiftLeft, Nat.shiftRight_eq_div_pow, Nat.shiftLeft_eq]
    have e1 : x.toNat * 2 ^ 31 % 2 ^ 32 = 2 ^ 31 * (x.toNat % 2) := by omega
    have hx := x.isLt
    have e2 : x.toNat / 2 ^ 1 < 2 ^ 31 := by omega
    rw [e1, Nat.or_comm, ← Nat.two_pow_add_eq_or_of_lt e2]
    omega
  unfold wn
  rw [h1]
  omega
theorem rr_zero (x : Word) : rr x 0 = x := by
  unfold rr
  apply BitVec.eq_of_getLsbD_eq
  intro i hi
  simp [BitVec.getLsbD_rotateRight, hi]
theorem rr_succ (x : Word) (n : Nat) (hn : n < 31) : rr (rr x n) 1 = rr x (n + 1) := by
  unfold rr
  apply BitVec.eq_of_getLsbD_eq
  intro i hi
  simp only [BitVec.getLsbD_rotateRight, Bool.cond_decide]
  rw [Nat.mod_eq_of_lt (show 1 < 32 by omega), Nat.mod_eq_of_lt (show n < 32 by omega), Nat.mod_eq_of_lt (show n + 1 < 32 by omega)]
  by_cases h1 : i < 31
  · rw [if_pos (by omega)]
    by_cases h2 : 1 + i < 32 - n
    · rw [if_pos h2, if_pos (by omega)]
      congr 1
      omega
    · rw [if_neg h2, if_neg (by omega)]
      have : (decide (1 + i < 32)) = true := by simp; omega
      rw [this]
      simp [hi]
      congr 1
      omega
  · obtain rfl : i = 31 := by omega
    rw [if_neg (show ¬ 31 < 32 - 1 by omega), if_neg (show ¬ 31 < 32 - (n + 1) by omega), if_pos (show 31 - (32 - 1) < 32 - n by omega)]
    simp only [show decide (31 < 32) = true from rfl, Bool.true_and]
    congr 1
    omega
theorem turns2 (x : Word) (a b : Nat) : turns x [a, b] = rr x a ^^^ rr x b := by simp [turns]
theorem turns3 (x : Word) (a b c : Nat) : turns x [a, b, c] = rr x a ^^^ rr x b ^^^ rr x c := by simp [turns]
theorem choose_eq (e f g : Word) : (e &&& f) ^^^ (~~~e &&& g) = g ^^^ e &&& (f ^^^ g) := by
  apply BitVec.eq_of_getLsbD_eq
  intro i hi
  simp only [BitVec.getLsbD_xor, BitVec.getLsbD_and, BitVec.getLsbD_not, hi, decide_true, Bool.true_and]
  cases e.getLsbD i <;> cases f.getLsbD i <;> cases g.getLsbD i <;> rfl
theorem most_eq (a b c : Word) : (a &&& b) ^^^ (a &&& c) ^^^ (b &&& c) = a &&& b ||| c &&& (a ||| b) := by
  apply BitVec.eq_of_getLsbD_eq
  intro i hi
  simp only [BitVec.getLsbD_xor, BitVec.getLsbD_and, BitVec.getLsbD_or]
  cases a.getLsbD i <;> cases b.getLsbD i <;> cases c.getLsbD i <;> rfl
/-- Four bytes, one behind the other. -/
theorem four_eq (a b c d : UInt8) : ((((0 : Word) ||| ofByte a <<< 24) ||| ofByte b <<< 16) ||| ofByte c <<< 8) ||| ofByte d <<< 0 = BitVec.ofNat 32 (((a.toNat * 256 + b.toNat) * 256 + c.toNat) * 256 + d.toNat) := by
  have ha := a.toNat_lt; have hb := b.toNat_lt; have hc := c.toNat_lt; have hd := d.toNat_lt
  have t : ∀ x : UInt8, (ofByte x).toNat = x.toNat := fun x => by have := x.toNat_lt; unfold ofByte; rw [BitVec.toNat_ofNat]; exact Nat.mod_eq_of_lt (by omega)
  have z : (0 : Word).toNat = 0 := rfl
  have e1 : (ofByte a <<< 24).toNat = 16777216 * a.toNat := by rw [BitVec.toNat_shiftLeft, t, Nat.shiftLeft_eq]; omega
  have e2 : (ofByte b <<< 16).toNat = 65536 * b.toNat := by rw [BitVec.toNat_shiftLeft, t, Nat.shiftLeft_eq]; omega
  have e3 : (ofByte c <<< 8).toNat = 256 * c.toNat := by rw [BitVec.toNat_shiftLeft, t, Nat.shiftLeft_eq]; omega
  have e4 : (ofByte d <<< 0).toNat = d.toNat := by rw [BitVec.toNat_shiftLeft, t, Nat.shiftLeft_eq]; omega
  have o1 : 16777216 * a.toNat ||| 65536 * b.toNat = 65536 * (256 * a.toNat + b.toNat) := by
    have := Nat.two_pow_add_eq_or_of_lt (i := 24) (b := 65536 * b.toNat) (by omega) a.toNat
    rw [show (16777216 : Nat) = 2 ^ 24 from rfl, ← this]; omega
  have o2 : 65536 * (256 * a.toNat + b.toNat) ||| 256 * c.toNat = 256 * (256 * (256 * a.toNat + b.toNat) + c.toNat) := by
    have := Nat.two_pow_add_eq_or_of_lt (i := 16) (b := 256 * c.toNat) (by omega) (256 * a.toNat + b.toNat)
    rw [show (65536 : Nat) = 2 ^ 16 from rfl, ← this]; omega
  have o3 : 256 * (256 * (256 * a.toNat + b.toNat) + c.toNat) ||| d.toNat = 256 * (256 * (256 * a.toNat + b.toNat) + c.toNat) + d.toNat := by
    have := Nat.two_pow_add_eq_or_of_lt (i := 8) (b := d.toNat) (by omega) (256 * (256 * a.toNat + b.toNat) + c.toNat)
    rw [show (256 : Nat) = 2 ^ 8 from rfl] at *
    exact this.symm
  apply BitVec.eq_of_toNat_eq
  rw [BitVec.toNat_or, BitVec.toNat_or, BitVec.toNat_or, BitVec.toNat_or, z, e1, e2, e3, e4, Nat.zero_or, o1, o2, o3, BitVec.toNat_ofNat]
  omega
end Go.Proofs.YtomalanncdcopaaDoor.Dig
