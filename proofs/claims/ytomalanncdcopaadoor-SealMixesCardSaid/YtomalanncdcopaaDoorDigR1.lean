/- The contracts of the reference of layer 2: turn, shift, K, Back, Words, Pad. -/
import Derived.Test.YtomalanncdcopaaDoorDigR0
import Derived.Test.YtomalanncdcopaaDoorDigS
set_option linter.unusedSimpArgs false
set_option linter.unusedVariables false
namespace Go.Proofs.YtomalanncdcopaaDoor.Dig
open Go Go.RowKit Go.Proofs.YtomalanncdcopaaDoor.Mem

theorem size8v : (Tryd.prog.info? 51).map (·.size) = some 8 := by kernel_rfl
theorem size64v : (Tryd.prog.info? 59).map (·.size) = some 64 := by kernel_rfl

set_option maxHeartbeats 1000000 in
theorem turn_any (x : Word) (n : Nat) (hn : n < 32) (w : World) :
    Calls Tryd.prog 29 #[.int .u64 (wn x), .int .i64 n] w fun r w' => r = .returned (.int .u64 (wn (rr x n))) ∧ w = w' := by
  go_enter Tryd.func29, Tryd.ntmps29
  go_wp2
  go_loop [0, 5] (fun v i => ∃ k : Nat, k ≤ n ∧ i = .int .i64 k ∧ v = .int .u64 (wn (rr x k))) (fun _ i => n - (intOf i).toNat)
  case atStart => exact ⟨0, Nat.zero_le _, rfl, by rw [rr_zero]⟩
  case round =>
    obtain ⟨k, hk, rfl, rfl⟩ := hrel
    by_cases hlt : k < n
    · obtain ⟨y, hy⟩ : ∃ y, y = rr x k := ⟨_, rfl⟩
      rw [← hy]
      have HN := Lib.hid (show rr y 1 = rr x (k + 1) by rw [hy]; exact rr_succ x k (by omega))
      have h1 := rr_one y
      obtain ⟨h2, h3⟩ := wn_bd y
      clear hy
      go_wp2
      go_round
      case rel => exact ⟨k + 1, by omega, by go_num, by rw [HN.out]⟩
      case measure => simp [intOf]; omega
    · obtain rfl : k = n := by omega
      go_wp2
      go_ret
      exact ⟨rfl, rfl⟩

set_option maxHeartbeats 1000000 in
theorem shift_any (x n : Nat) (hx : x < 18446744073709551616) (hn : n ≤ 1000) (w : World) :
    Calls Tryd.prog 27 #[.int .u64 x, .int .i64 n] w fun r w' => r = .returned (.int .u64 ((x / 2 ^ n : Nat) : Int)) ∧ w = w' := by
  go_enter Tryd.func27, Tryd.ntmps27
  go_wp2
  go_loop [0, 5] (fun v i => ∃ k : Nat, k ≤ n ∧ i = .int .i64 k ∧ v = .int .u64 ((x / 2 ^ k : Nat) : Int)) (fun _ i => n - (intOf i).toNat)
  case atStart => exact ⟨0, Nat.zero_le _, rfl, by simp⟩
  case round =>
    obtain ⟨k, hk, rfl, rfl⟩ := hrel
    by_cases hlt : k < n
    · obtain ⟨y, hy⟩ : ∃ y, y = x / 2 ^ k := ⟨_, rfl⟩
      rw [← hy]
      have h1 : y / 2 = x / 2 ^ (k + 1) := by rw [hy, Nat.div_div_eq_div_mul, Nat.pow_succ]
      have hy1 : y < 18446744073709551616 := by rw [hy]; exact Nat.lt_of_le_of_lt (Nat.div_le_self _ _) hx
      have HN := Lib.hid h1
      clear hy h1
      go_wp2
      go_round
      case rel => exact ⟨k + 1, by omega, by go_num, by rw [← HN.out]; go_num⟩
      case measure => simp [intOf]; omega
    · obtain rfl : k = n := by omega
      go_wp2
      go_ret
      exact ⟨rfl, rfl⟩

set_option maxRecDepth 100000 in
set_option maxHeartbeats 1000000 in
theorem ktab_any (w : World) : Calls Tryd.prog 30 #[] w fun r w' => r = .returned (.agg (wcells64 kTab).toArray) ∧ OnlyNew w w' := by
  obtain ⟨bv, hbv⟩ : ∃ bv, bv = (wcells64 kTab).toArray := ⟨_, rfl⟩
  rw [← hbv]
  have HB := Lib.hid hbv
  clear hbv
  go_enter Tryd.func30, Tryd.ntmps30
  go_wp2_with (first
    | (refine wpList_storeRow rfl 59 (.tmp 0) (.tmp 1) rfl w.heap.size 0 _ (wcells64 kTab) rfl rfl (Row.new _ _ _) 64 size64v rfl rfl (wcells64_one _) ?_; intro w2 B2 _ _ c2))
  refine bodyPost_ret (v := .agg bv) ?_ rfl ⟨rfl, ((Chgd.refl (fun _ => False) w).alloc _).trans c2 (fun j hj e => by omega)⟩
  rw [HB.out]
  exact results_cell_mid (p := 0) (ty := 59) rfl _ w2 w.heap.size 0 (wcells64 kTab) _ rfl B2.1 Tryd.underlying59 rfl size64v
end Go.Proofs.YtomalanncdcopaaDoor.Dig
