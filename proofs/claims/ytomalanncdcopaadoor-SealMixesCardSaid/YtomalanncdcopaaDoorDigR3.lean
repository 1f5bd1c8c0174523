/- What the reference's Compress reckons, in words. -/
import Derived.Test.YtomalanncdcopaaDoorDigR0
import Derived.KernelRfl
import Derived.WalkKit
set_option linter.unusedSimpArgs false
set_option linter.unusedVariables false
namespace Go.Proofs.YtomalanncdcopaaDoor.Dig
open Go Go.RowKit Go.Proofs.YtomalanncdcopaaDoor.Mem

/-- The number of the first k bytes of a block's word i. -/
def pn (bs : List UInt8) (i : Nat) : Nat → Nat
  | 0 => 0
  | k + 1 => pn bs i k * 256 + (bs.getD (4 * i + k) 0).toNat
theorem pn_lt (bs : List UInt8) (i : Nat) : ∀ k, pn bs i k < 256 ^ k
  | 0 => by simp [pn]
  | k + 1 => by
    have := pn_lt bs i k
    have := (bs.getD (4 * i + k) 0).toNat_lt
    rw [pn, Nat.pow_succ]
    omega
/-- A block's words, those ahead of i whole, word i by its first k bytes. -/
def rw64 (bs : List UInt8) (i k : Nat) : List Word := (List.range 64).map fun q => if q < i then BitVec.ofNat 32 (pn bs q 4) else if q = i then BitVec.ofNat 32 (pn bs i k) else 0
theorem rw64_length (bs : List UInt8) (i k : Nat) : (rw64 bs i k).length = 64 := by simp [rw64]
theorem rw64_at (bs : List UInt8) (i k : Nat) (hi : i < 64) : wat (rw64 bs i k) i = BitVec.ofNat 32 (pn bs i k) := by
  simp [wat, rw64, List.getD, hi]
theorem rw64_set (bs : List UInt8) (i k : Nat) : (rw64 bs i k).set i (BitVec.ofNat 32 (pn bs i (k + 1))) = rw64 bs i (k + 1) := by
  apply List.ext_getElem
  · simp [rw64]
  · intro q h1 h2
    have hq : q < 64 := by simpa [rw64] using h2
    by_cases h : i = q
    · subst h; simp [rw64]
    · rw [List.getElem_set_ne h]
      simp [rw64, Ne.symm h]
theorem rw64_next (bs : List UInt8) (i : Nat) : rw64 bs i 4 = rw64 bs (i + 1) 0 := by
  unfold rw64
  apply List.map_congr_left
  intro q _
  by_cases h1 : q < i
  · rw [if_pos h1, if_pos (by omega)]
  · by_cases h2 : q = i
    · subst h2; rw [if_neg h1, if_pos rfl, if_pos (by omega)]
    · rw [if_neg h1, if_neg h2, if_neg (by omega)]
      by_cases h3 : q = i + 1
      · rw [if_pos h3]; rfl
      · rw [if_neg h3]
theorem rw64_zero (bs : List UInt8) : rw64 bs 0 0 = List.replicate 64 0 := by kernel_rfl
theorem part_all (bs : List UInt8) : part bs 64 = (List.range 16).map (fun q => ((((0 : Word) ||| ofByte (bs.getD (4 * q) 0) <<< 24) ||| ofByte (bs.getD (4 * q + 1) 0) <<< 16) ||| ofByte (bs.getD (4 * q + 2) 0) <<< 8) ||| ofByte (bs.getD (4 * q + 3) 0) <<< 0) ++ List.replicate 48 0 := by kernel_rfl
theorem rw64_all (bs : List UInt8) : rw64 bs 16 0 = (List.range 16).map (fun q => BitVec.ofNat 32 (pn bs q 4)) ++ List.replicate 48 0 := by kernel_rfl
theorem word_eq (bs : List UInt8) (q : Nat) : BitVec.ofNat 32 (pn bs q 4) = ((((0 : Word) ||| ofByte (bs.getD (4 * q) 0) <<< 24) ||| ofByte (bs.getD (4 * q + 1) 0) <<< 16) ||| ofByte (bs.getD (4 * q + 2) 0) <<< 8) ||| ofByte (bs.getD (4 * q + 3) 0) <<< 0 := by
  rw [four_eq]
  have e : pn bs q 4 = (((bs.getD (4 * q) 0).toNat * 256 + (bs.getD (4 * q + 1) 0).toNat) * 256 + (bs.getD (4 * q + 2) 0).toNat) * 256 + (bs.getD (4 * q + 3) 0).toNat := by
    show ((((0 * 256 + _) * 256 + _) * 256 + _) * 256 + _) = _
    rw [Nat.zero_mul, Nat.zero_add]
    rfl
  rw [e]
theorem rw64_part (bs : List UInt8) : rw64 bs 16 0 = part bs 64 := by
  have h : (List.range 16).map (fun q => BitVec.ofNat 32 (pn bs q 4)) = (List.range 16).map (fun q => ((((0 : Word) ||| ofByte (bs.getD (4 * q) 0) <<< 24) ||| ofByte (bs.getD (4 * q + 1) 0) <<< 16) ||| ofByte (bs.getD (4 * q + 2) 0) <<< 8) ||| ofByte (bs.getD (4 * q + 3) 0) <<< 0) :=
    List.map_congr_left fun q _ => word_eq bs q
  rw [rw64_all, part_all, h]
theorem wn_ofNat (n : Nat) (h : n < 4294967296) : wn (BitVec.ofNat 32 n) = (n : Int) := by
  unfold wn
  rw [BitVec.toNat_ofNat, Nat.mod_eq_of_lt (by omega)]
theorem s2 (a b : Word) : IntKind.u64.wrap (wn a + wn b) = wn a + wn b := by
  obtain ⟨ha, ka⟩ := wn_bd a
  obtain ⟨hb, kb⟩ := wn_bd b
  exact IntWalk.u64_in _ (by omega)
theorem m2 (a b : Word) : (wn a + wn b).tmod 4294967296 = wn (a + b) := by
  obtain ⟨ha, ka⟩ := wn_bd a
  obtain ⟨hb, kb⟩ := wn_bd b
  rw [Int.tmod_eq_emod_of_nonneg (by omega)]
  unfold wn at *
  simp only [BitVec.toNat_add]
  omega
theorem s3 (a b c : Word) : IntKind.u64.wrap (wn a + wn b + wn c) = wn a + wn b + wn c := by
  obtain ⟨ha, ka⟩ := wn_bd a
  obtain ⟨hb, kb⟩ := wn_bd b
  obtain ⟨hc, kc⟩ := wn_bd c
  exact IntWalk.u64_in _ (by omega)
theorem m3 (a b c : Word) : (wn a + wn b + wn c).tmod 4294967296 = wn (a + b + c) := by
  obtain ⟨ha, ka⟩ := wn_bd a
  obtain ⟨hb, kb⟩ := wn_bd b
  obtain ⟨hc, kc⟩ := wn_bd c
  rw [Int.tmod_eq_emod_of_nonneg (by omega)]
  unfold wn at *
  simp only [BitVec.toNat_add]
  omega
theorem s4 (a b c d : Word) : IntKind.u64.wrap (wn a + wn b + wn c + wn d) = wn a + wn b + wn c + wn d := by
  obtain ⟨ha, ka⟩ := wn_bd a
  obtain ⟨hb, kb⟩ := wn_bd b
  obtain ⟨hc, kc⟩ := wn_bd c
  obtain ⟨hd, kd⟩ := wn_bd d
  exact IntWalk.u64_in _ (by omega)
theorem m4 (a b c d : Word) : (wn a + wn b + wn c + wn d).tmod 4294967296 = wn (a + b + c + d) := by
  obtain ⟨ha, ka⟩ := wn_bd a
  obtain ⟨hb, kb⟩ := wn_bd b
  obtain ⟨hc, kc⟩ := wn_bd c
  obtain ⟨hd, kd⟩ := wn_bd d
  rw [Int.tmod_eq_emod_of_nonneg (by omega)]
  unfold wn at *
  simp only [BitVec.toNat_add]
  omega
theorem s5 (a b c d e : Word) : IntKind.u64.wrap (wn a + wn b + wn c + wn d + wn e) = wn a + wn b + wn c + wn d + wn e := by
  obtain ⟨ha, ka⟩ := wn_bd a
  obtain ⟨hb, kb⟩ := wn_bd b
  obtain ⟨hc, kc⟩ := wn_bd c
  obtain ⟨hd, kd⟩ := wn_bd d
  obtain ⟨he, ke⟩ := wn_bd e
  exact IntWalk.u64_in _ (by omega)
theorem m5 (a b c d e : Word) : (wn a + wn b + wn c + wn d + wn e).tmod 4294967296 = wn (a + b + c + d + e) := by
  obtain ⟨ha, ka⟩ := wn_bd a
  obtain ⟨hb, kb⟩ := wn_bd b
  obtain ⟨hc, kc⟩ := wn_bd c
  obtain ⟨hd, kd⟩ := wn_bd d
  obtain ⟨he, ke⟩ := wn_bd e
  rw [Int.tmod_eq_emod_of_nonneg (by omega)]
  unfold wn at *
  simp only [BitVec.toNat_add]
  omega
end Go.Proofs.YtomalanncdcopaaDoor.Dig
