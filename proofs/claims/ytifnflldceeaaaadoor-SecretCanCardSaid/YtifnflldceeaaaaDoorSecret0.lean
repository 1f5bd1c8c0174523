/- Numbers and places of layer 4: the contracts of number, Place and Can, and their plain laws. -/
import Derived.Test.YtifnflldceeaaaaDoorRows
import Derived.Test.YtifnflldceeaaaaDoorMem
import Derived.WalkKit
import Derived.WalkSpells
import Derived.Lib.Hide
import Derived.BigQuiet
import Derived.Deep.QuietTactic
import Derived.Deep.RegionWith
import Derived.Shelf.Spec.TrailingZeros
set_option linter.unusedSimpArgs false
set_option linter.unusedVariables false
namespace Go.Proofs.YtifnflldceeaaaaDoor.Secret
open Go Go.RowKit Go.Proofs.YtifnflldceeaaaaDoor.Mem

/-- The library's table. -/
abbrev TabW (w : World) : Prop := TabAt 1 Lib.deBruijn64tab w

theorem TabW.keep {w w' : World} {S : Nat → Prop} (h : TabW w) (hc : Chgd S w w') (hs : ¬ S 1) : TabW w' := fun j hj => hc.at_ (h j hj) hs
theorem TabW.drew {w : World} (h : TabW w) (n : Nat) : TabW (w.drewN n) := fun j hj => h j hj

theorem tz_core (x k idx : Nat) (w : World) (hx0 : ((x : Int) == 0) = false)
    (key : IntKind.u64.wrap (bits BinOp.and IntKind.u64 (x : Int) (IntKind.u64.wrap (-(x : Int))) * 285870213051353865) / 288230376151711744 = (idx : Int))
    (hi : idx < 64) (hk : k < 64) (hcell : w.cell? ⟨1, idx, none⟩ = some (.int .u8 k)) :
    Calls Tryd.prog 28 #[.int .u64 x] w fun r w' => r = .returned (.int .i64 k) ∧ w = w' := by
  go_enter Tryd.func28, Tryd.ntmps28
  go_wp2_with (simp only [key])
  go_ret
  exact ⟨rfl, rfl⟩

theorem tz_any (x : Nat) (hx0 : x ≠ 0) (hx : x < 18446744073709551616) (w : World) (hT : TabW w) :
    Calls Tryd.prog 19 #[.int .u64 x] w fun r w' => r = .returned (.int .i64 (Lib.ctz 64 x)) ∧ w = w' := by
  obtain ⟨hlow, hk⟩ := Lib.lowest_bit 64 x hx0 hx
  obtain ⟨hi, htab⟩ := Lib.deBruijn64_at _ hk
  have hcell := hT _ hi
  rw [htab] at hcell
  have c := tz_core x _ _ w (by simp; omega) (tz64_key x _ hx hx0 hlow) hi hk hcell
  have hw : IntKind.u64.wrap (x : Int) = (x : Int) := by rw [IntKind.wrap_u64]; omega
  generalize Lib.ctz 64 x = k at *
  clear hcell htab hi hlow hk
  go_enter Tryd.func19, Tryd.ntmps19
  go_wp2_with (go_at_call 28; refine c.mono ?_; rintro e w' ⟨rfl, rfl⟩)
  go_ret
  exact ⟨rfl, rfl⟩

def place (i : Nat) : Nat := Lib.ctz 64 (i + 65536)
theorem place_dvd (i : Nat) (hi : i < 65536) : 2 ^ place i ∣ i + 65536 ∧ ∀ k, 2 ^ k ∣ i + 65536 → k ≤ place i := by
  have h0 : 0 < i + 65536 := by omega
  obtain ⟨m, hm, _⟩ := Lib.ctzFrom_spec 64 (i + 65536) h0 (by omega)
  have e : place i = Lib.ctzFrom 64 (i + 65536) := by unfold place Lib.ctz; rw [if_neg (by omega)]
  rw [e]
  refine ⟨⟨2 * m + 1, hm⟩, fun k hk => ?_⟩
  generalize Lib.ctzFrom 64 (i + 65536) = c at *
  apply Nat.le_of_not_lt
  intro hlt
  have h1 : 2 ^ (c + 1) ∣ 2 ^ c * (2 * m + 1) := Nat.dvd_trans (Nat.pow_dvd_pow 2 hlt) (hm ▸ hk)
  rw [Nat.pow_succ] at h1
  have h2 := Nat.dvd_of_mul_dvd_mul_left (Nat.two_pow_pos c) h1
  omega
theorem place_le (i : Nat) (hi : i < 65536) : place i ≤ 16 := by
  obtain ⟨h, _⟩ := place_dvd i hi
  apply Nat.le_of_not_lt
  intro hlt
  have h1 := Nat.dvd_trans (Nat.pow_dvd_pow 2 (show 17 ≤ place i from hlt)) h
  have h2 := Nat.le_of_dvd (by omega) h1
  omega
theorem place_dvd' (i : Nat) (hi : i < 65536) : 2 ^ place i ∣ i := by
  obtain ⟨h, _⟩ := place_dvd i hi
  have h1 : 2 ^ place i ∣ 65536 := Nat.pow_dvd_pow 2 (place_le i hi)
  exact (Nat.dvd_add_iff_left h1).2 h

theorem or_most (i : Nat) (hi : i < 65536) : bits .or .i64 (i : Int) 65536 = ((i + 65536 : Nat) : Int) := by
  have h1 : (BitVec.ofInt 64 (i : Int)).toNat = i := by
    rw [BitVec.ofInt_natCast, BitVec.toNat_ofNat]; exact Nat.mod_eq_of_lt (by omega)
  have h2 : (BitVec.ofInt 64 (65536 : Int)).toNat = 65536 := by decide
  have h3 : i ||| 65536 = i + 65536 := by
    rw [show (65536 : Nat) = 2 ^ 16 * 1 from rfl, Nat.or_comm, ← Nat.two_pow_add_eq_or_of_lt (i := 16) (b := i) hi 1]
    omega
  show IntKind.i64.wrap ((BitVec.ofInt 64 (i : Int) ||| BitVec.ofInt 64 (65536 : Int)).toNat : Int) = _
  rw [BitVec.toNat_or, h1, h2, h3]
  exact IntWalk.i64_in _ (by omega)

def inN (i : Int) : Bool := decide (0 ≤ i ∧ i < 65536)
theorem number_yes (i : Nat) (hi : i < 65536) (w : World) :
    Calls Tryd.prog 18 #[.int .i64 i] w fun r w' => r = .returned (.bool true) ∧ w = w' := by
  go_enter Tryd.func18, Tryd.ntmps18
  go_wp2
  go_ret
  exact ⟨ret_bool (decide_eq_true (by omega)), rfl⟩
theorem number_no (i : Int) (hi : i < 0 ∨ 65536 ≤ i) (w : World) :
    Calls Tryd.prog 18 #[.int .i64 i] w fun r w' => r = .returned (.bool false) ∧ w = w' := by
  rcases hi with hi | hi
  all_goals
    go_enter Tryd.func18, Tryd.ntmps18
    go_wp2
    go_ret
    first
      | exact ⟨rfl, rfl⟩
      | exact ⟨ret_bool (decide_eq_false (by omega)), rfl⟩

theorem place_any (i : Nat) (hi : i < 65536) (w : World) (hT : TabW w) :
    Calls Tryd.prog 8 #[.int .i64 i] w fun r w' => r = .returned (.int .i64 ((place i : Nat) : Int)) ∧ w = w' := by
  have ho := or_most i hi
  have hw : IntKind.u64.wrap ((i + 65536 : Nat) : Int) = ((i + 65536 : Nat) : Int) := by rw [IntKind.wrap_u64]; omega
  have c := tz_any (i + 65536) (by omega) (by omega) w hT
  unfold place
  generalize Lib.ctz 64 (i + 65536) = k at *
  generalize i + 65536 = m at *
  have hn := number_yes i hi w
  clear hi
  go_enter Tryd.func8, Tryd.ntmps8
  go_wp2_with (first
    | (go_at_call 18; refine hn.mono ?_; rintro e w' ⟨rfl, rfl⟩)
    | (go_at_call 19; refine c.mono ?_; rintro e w' ⟨rfl, rfl⟩))
  go_ret
  exact ⟨rfl, rfl⟩

end Go.Proofs.YtifnflldceeaaaaDoor.Secret
