/- The walks of layer 11's two laws that take a list of events: each answers true, and leaves memory alone. -/
import Derived.Test.YtcgigoidmnpijaaDoorHtlcLaws
namespace Go.Proofs.YtcgigoidmnpijaaDoor.Htlc
open Go.RowKit

theorem next_cases (s : Int) (own : Bool) (e : Int) : next s own e = s ∨ (next s own e = s + 1 ∧ want s ≠ 0) := by
  have hr := want_range s
  unfold next
  by_cases h : 0 < want s ∧ (if own then e else mirrored e) = want s
  · right; rw [if_pos h]; exact ⟨rfl, by omega⟩
  · left; rw [if_neg h]
theorem want_ne {s : Int} (h : want s ≠ 0) : 0 ≤ s ∧ s ≤ 8 ∧ s ≠ 4 := by
  unfold want at h
  repeat (first | (split at h) | omega)

def comes (own : Bool) : Nat → Int
  | 0 => 0
  | k + 1 => next (comes own k) own (1 + (k : Int) % 4)
theorem comes_end (own : Bool) : comes own 8 = 4 := by cases own <;> decide

set_option maxHeartbeats 1000000 in
theorem events_any (s0 : Int) (own : Bool) (xs : List Int) (b off len cap : Nat) (w : World) (hT : Tab w) (h0 : 0 ≤ s0) (h1 : s0 ≤ 255) (hm : len ≤ 9223372036854775807)
    (hc : ∀ k, k < len → w.cell? ⟨b, off + k, none⟩ = some (.int .u8 (xs.getD k 0))) (hx : ∀ k, 0 ≤ xs.getD k 0 ∧ xs.getD k 0 ≤ 255) :
    Calls Tryd.prog 3 #[.int .u8 s0, .bool own, .slice (some ⟨b, off, none⟩) len cap] w fun r w' => r = .returned (.bool true) ∧ w = w' := by
  cases own
  · have HC := Lib.hid hc
    have HX := Lib.hid hx
    clear hc hx
    by_cases hL : 200 < len
    · go_enter Tryd.func3, Tryd.ntmps3
      go_wp2_with (first | (go_at_call 10; refine (next_any _ _ _ _ hT).mono ?_; rintro e w' ⟨rfl, rfl⟩) | (go_at_call 11; refine (may_any _ _).mono ?_; rintro e w' ⟨rfl, rfl⟩) | (go_at_call 12; refine (ours_any _ _ _).mono ?_; rintro e w' ⟨rfl, rfl⟩) | (go_at_call 9; refine (shown_any _ hT).mono ?_; rintro e w' ⟨rfl, rfl⟩))
      go_ret
      exact ⟨rfl, rfl⟩
    · go_enter Tryd.func3, Tryd.ntmps3
      go_wp2_with (first | (go_at_call 10; refine (next_any _ _ _ _ hT).mono ?_; rintro e w' ⟨rfl, rfl⟩) | (go_at_call 11; refine (may_any _ _).mono ?_; rintro e w' ⟨rfl, rfl⟩) | (go_at_call 12; refine (ours_any _ _ _).mono ?_; rintro e w' ⟨rfl, rfl⟩) | (go_at_call 9; refine (shown_any _ hT).mono ?_; rintro e w' ⟨rfl, rfl⟩))
      go_loop [7, 8] (fun s i => ∃ k : Nat, ∃ s1 : Int, k ≤ len ∧ 0 ≤ s1 ∧ s1 ≤ 9 ∧ i = .int .i64 k ∧ s = .int .i64 s1) (fun _ i => len - (intOf i).toNat)
      case atStart => exact ⟨0, s0 % 10, Nat.zero_le _, by omega, by omega, rfl, rfl⟩
      case round =>
        obtain ⟨k, s1, hk, hs0, hs1, rfl, rfl⟩ := hrel
        by_cases hlt : k < len
        · have hcell := HC.out k hlt
          have hxx := HX.out k
          obtain ⟨x, hxe⟩ : ∃ x, x = xs.getD k 0 := ⟨_, rfl⟩
          rw [← hxe] at hcell hxx
          clear hxe
          obtain ⟨x0, x1⟩ := hxx
          rcases next_cases s1 false (x % 6) with hn | ⟨hn, hw⟩
          · have hmay := may_of hs0 hs1
            go_wp2_with (first | (go_at_call 10; refine (next_any _ _ _ _ hT).mono ?_; rintro e w' ⟨rfl, rfl⟩) | (go_at_call 11; refine (may_any _ _).mono ?_; rintro e w' ⟨rfl, rfl⟩) | (go_at_call 12; refine (ours_any _ _ _).mono ?_; rintro e w' ⟨rfl, rfl⟩) | (go_at_call 9; refine (shown_any _ hT).mono ?_; rintro e w' ⟨rfl, rfl⟩))
            all_goals go_round
            all_goals first | (exact ⟨k + 1, _, by omega, by omega, by omega, by go_num, rfl⟩) | (simp [intOf]; omega)
          · have hwn := want_ne hw
            have hmay : mayB (s1 + 1) = true := may_of (by omega) (by omega)
            have h4 : (s1 == 4) = false := by simpa using hwn.2.2
            have h9 : (s1 == 9) = false := by simp; omega
            clear hw
            go_wp2_with (first | (go_at_call 10; refine (next_any _ _ _ _ hT).mono ?_; rintro e w' ⟨rfl, rfl⟩) | (go_at_call 11; refine (may_any _ _).mono ?_; rintro e w' ⟨rfl, rfl⟩) | (go_at_call 12; refine (ours_any _ _ _).mono ?_; rintro e w' ⟨rfl, rfl⟩) | (go_at_call 9; refine (shown_any _ hT).mono ?_; rintro e w' ⟨rfl, rfl⟩))
            go_round
            case rel => exact ⟨k + 1, s1 + 1, by omega, by omega, by omega, by go_num, rfl⟩
            case measure => simp [intOf]; omega
        · obtain rfl : k = len := by omega
          go_wp2_with (first | (go_at_call 10; refine (next_any _ _ _ _ hT).mono ?_; rintro e w' ⟨rfl, rfl⟩) | (go_at_call 11; refine (may_any _ _).mono ?_; rintro e w' ⟨rfl, rfl⟩) | (go_at_call 12; refine (ours_any _ _ _).mono ?_; rintro e w' ⟨rfl, rfl⟩) | (go_at_call 9; refine (shown_any _ hT).mono ?_; rintro e w' ⟨rfl, rfl⟩))
          go_loop [10, 11] (fun s i => ∃ k : Nat, k ≤ 8 ∧ i = .int .i64 k ∧ s = .int .i64 (comes false k)) (fun _ i => 8 - (intOf i).toNat)
          case atStart => exact ⟨0, by omega, rfl, rfl⟩
          case round =>
            obtain ⟨j, hj, rfl, rfl⟩ := hrel
            by_cases hjl : j < 8
            · go_wp2_with (first | (go_at_call 10; refine (next_any _ _ _ _ hT).mono ?_; rintro e w' ⟨rfl, rfl⟩) | (go_at_call 11; refine (may_any _ _).mono ?_; rintro e w' ⟨rfl, rfl⟩) | (go_at_call 12; refine (ours_any _ _ _).mono ?_; rintro e w' ⟨rfl, rfl⟩) | (go_at_call 9; refine (shown_any _ hT).mono ?_; rintro e w' ⟨rfl, rfl⟩))
              go_round
              case rel => exact ⟨j + 1, by omega, by go_num, rfl⟩
              case measure => simp [intOf]; omega
            · obtain rfl : j = 8 := by omega
              rw [comes_end]
              go_wp2_with (first | (go_at_call 10; refine (next_any _ _ _ _ hT).mono ?_; rintro e w' ⟨rfl, rfl⟩) | (go_at_call 11; refine (may_any _ _).mono ?_; rintro e w' ⟨rfl, rfl⟩) | (go_at_call 12; refine (ours_any _ _ _).mono ?_; rintro e w' ⟨rfl, rfl⟩) | (go_at_call 9; refine (shown_any _ hT).mono ?_; rintro e w' ⟨rfl, rfl⟩))
              go_ret
              exact ⟨rfl, rfl⟩
  · have HC := Lib.hid hc
    have HX := Lib.hid hx
    clear hc hx
    by_cases hL : 200 < len
    · go_enter Tryd.func3, Tryd.ntmps3
      go_wp2_with (first | (go_at_call 10; refine (next_any _ _ _ _ hT).mono ?_; rintro e w' ⟨rfl, rfl⟩) | (go_at_call 11; refine (may_any _ _).mono ?_; rintro e w' ⟨rfl, rfl⟩) | (go_at_call 12; refine (ours_any _ _ _).mono ?_; rintro e w' ⟨rfl, rfl⟩) | (go_at_call 9; refine (shown_any _ hT).mono ?_; rintro e w' ⟨rfl, rfl⟩))
      go_ret
      exact ⟨rfl, rfl⟩
    · go_enter Tryd.func3, Tryd.ntmps3
      go_wp2_with (first | (go_at_call 10; refine (next_any _ _ _ _ hT).mono ?_; rintro e w' ⟨rfl, rfl⟩) | (go_at_call 11; refine (may_any _ _).mono ?_; rintro e w' ⟨rfl, rfl⟩) | (go_at_call 12; refine (ours_any _ _ _).mono ?_; rintro e w' ⟨rfl, rfl⟩) | (go_at_call 9; refine (shown_any _ hT).mono ?_; rintro e w' ⟨rfl, rfl⟩))
      go_loop [7, 8] (fun s i => ∃ k : Nat, ∃ s1 : Int, k ≤ len ∧ 0 ≤ s1 ∧ s1 ≤ 9 ∧ i = .int .i64 k ∧ s = .int .i64 s1) (fun _ i => len - (intOf i).toNat)
      case atStart => exact ⟨0, s0 % 10, Nat.zero_le _, by omega, by omega, rfl, rfl⟩
      case round =>
        obtain ⟨k, s1, hk, hs0, hs1, rfl, rfl⟩ := hrel
        by_cases hlt : k < len
        · have hcell := HC.out k hlt
          have hxx := HX.out k
          obtain ⟨x, hxe⟩ : ∃ x, x = xs.getD k 0 := ⟨_, rfl⟩
          rw [← hxe] at hcell hxx
          clear hxe
          obtain ⟨x0, x1⟩ := hxx
          rcases next_cases s1 true (x % 6) with hn | ⟨hn, hw⟩
          · have hmay := may_of hs0 hs1
            go_wp2_with (first | (go_at_call 10; refine (next_any _ _ _ _ hT).mono ?_; rintro e w' ⟨rfl, rfl⟩) | (go_at_call 11; refine (may_any _ _).mono ?_; rintro e w' ⟨rfl, rfl⟩) | (go_at_call 12; refine (ours_any _ _ _).mono ?_; rintro e w' ⟨rfl, rfl⟩) | (go_at_call 9; refine (shown_any _ hT).mono ?_; rintro e w' ⟨rfl, rfl⟩))
            all_goals go_round
            all_goals first | (exact ⟨k + 1, _, by omega, by omega, by omega, by go_num, rfl⟩) | (simp [intOf]; omega)
          · have hwn := want_ne hw
            have hmay : mayB (s1 + 1) = true := may_of (by omega) (by omega)
            have h4 : (s1 == 4) = false := by simpa using hwn.2.2
            have h9 : (s1 == 9) = false := by simp; omega
            clear hw
            go_wp2_with (first | (go_at_call 10; refine (next_any _ _ _ _ hT).mono ?_; rintro e w' ⟨rfl, rfl⟩) | (go_at_call 11; refine (may_any _ _).mono ?_; rintro e w' ⟨rfl, rfl⟩) | (go_at_call 12; refine (ours_any _ _ _).mono ?_; rintro e w' ⟨rfl, rfl⟩) | (go_at_call 9; refine (shown_any _ hT).mono ?_; rintro e w' ⟨rfl, rfl⟩))
            go_round
            case rel => exact ⟨k + 1, s1 + 1, by omega, by omega, by omega, by go_num, rfl⟩
            case measure => simp [intOf]; omega
        · obtain rfl : k = len := by omega
          go_wp2_with (first | (go_at_call 10; refine (next_any _ _ _ _ hT).mono ?_; rintro e w' ⟨rfl, rfl⟩) | (go_at_call 11; refine (may_any _ _).mono ?_; rintro e w' ⟨rfl, rfl⟩) | (go_at_call 12; refine (ours_any _ _ _).mono ?_; rintro e w' ⟨rfl, rfl⟩) | (go_at_call 9; refine (shown_any _ hT).mono ?_; rintro e w' ⟨rfl, rfl⟩))
          go_loop [10, 11] (fun s i => ∃ k : Nat, k ≤ 8 ∧ i = .int .i64 k ∧ s = .int .i64 (comes true k)) (fun _ i => 8 - (intOf i).toNat)
          case atStart => exact ⟨0, by omega, rfl, rfl⟩
          case round =>
            obtain ⟨j, hj, rfl, rfl⟩ := hrel
            by_cases hjl : j < 8
            · go_wp2_with (first | (go_at_call 10; refine (next_any _ _ _ _ hT).mono ?_; rintro e w' ⟨rfl, rfl⟩) | (go_at_call 11; refine (may_any _ _).mono ?_; rintro e w' ⟨rfl, rfl⟩) | (go_at_call 12; refine (ours_any _ _ _).mono ?_; rintro e w' ⟨rfl, rfl⟩) | (go_at_call 9; refine (shown_any _ hT).mono ?_; rintro e w' ⟨rfl, rfl⟩))
              go_round
              case rel => exact ⟨j + 1, by omega, by go_num, rfl⟩
              case measure => simp [intOf]; omega
            · obtain rfl : j = 8 := by omega
              rw [comes_end]
              go_wp2_with (first | (go_at_call 10; refine (next_any _ _ _ _ hT).mono ?_; rintro e w' ⟨rfl, rfl⟩) | (go_at_call 11; refine (may_any _ _).mono ?_; rintro e w' ⟨rfl, rfl⟩) | (go_at_call 12; refine (ours_any _ _ _).mono ?_; rintro e w' ⟨rfl, rfl⟩) | (go_at_call 9; refine (shown_any _ hT).mono ?_; rintro e w' ⟨rfl, rfl⟩))
              go_ret
              exact ⟨rfl, rfl⟩

theorem events_nil (s0 : Int) (own : Bool) (ao : Option Addr) (cap : Nat) (w : World) (hT : Tab w) (h0 : 0 ≤ s0) (h1 : s0 ≤ 255) :
    Calls Tryd.prog 3 #[.int .u8 s0, .bool own, .slice ao 0 cap] w fun r w' => r = .returned (.bool true) ∧ w = w' := by
  cases own
  · go_enter Tryd.func3, Tryd.ntmps3
    go_wp2_with (first | (go_at_call 10; refine (next_any _ _ _ _ hT).mono ?_; rintro e w' ⟨rfl, rfl⟩) | (go_at_call 11; refine (may_any _ _).mono ?_; rintro e w' ⟨rfl, rfl⟩) | (go_at_call 12; refine (ours_any _ _ _).mono ?_; rintro e w' ⟨rfl, rfl⟩) | (go_at_call 9; refine (shown_any _ hT).mono ?_; rintro e w' ⟨rfl, rfl⟩))
    refine wp_loop_rounds 1 ?_
    rw [rounds_succ]
    go_wp2_with (first | (go_at_call 10; refine (next_any _ _ _ _ hT).mono ?_; rintro e w' ⟨rfl, rfl⟩) | (go_at_call 11; refine (may_any _ _).mono ?_; rintro e w' ⟨rfl, rfl⟩) | (go_at_call 12; refine (ours_any _ _ _).mono ?_; rintro e w' ⟨rfl, rfl⟩) | (go_at_call 9; refine (shown_any _ hT).mono ?_; rintro e w' ⟨rfl, rfl⟩))
    go_loop [10, 11] (fun s i => ∃ k : Nat, k ≤ 8 ∧ i = .int .i64 k ∧ s = .int .i64 (comes false k)) (fun _ i => 8 - (intOf i).toNat)
    case atStart => exact ⟨0, by omega, rfl, rfl⟩
    case round =>
      obtain ⟨j, hj, rfl, rfl⟩ := hrel
      by_cases hjl : j < 8
      · go_wp2_with (first | (go_at_call 10; refine (next_any _ _ _ _ hT).mono ?_; rintro e w' ⟨rfl, rfl⟩) | (go_at_call 11; refine (may_any _ _).mono ?_; rintro e w' ⟨rfl, rfl⟩) | (go_at_call 12; refine (ours_any _ _ _).mono ?_; rintro e w' ⟨rfl, rfl⟩) | (go_at_call 9; refine (shown_any _ hT).mono ?_; rintro e w' ⟨rfl, rfl⟩))
        go_round
        case rel => exact ⟨j + 1, by omega, by go_num, rfl⟩
        case measure => simp [intOf]; omega
      · obtain rfl : j = 8 := by omega
        rw [comes_end]
        go_wp2_with (first | (go_at_call 10; refine (next_any _ _ _ _ hT).mono ?_; rintro e w' ⟨rfl, rfl⟩) | (go_at_call 11; refine (may_any _ _).mono ?_; rintro e w' ⟨rfl, rfl⟩) | (go_at_call 12; refine (ours_any _ _ _).mono ?_; rintro e w' ⟨rfl, rfl⟩) | (go_at_call 9; refine (shown_any _ hT).mono ?_; rintro e w' ⟨rfl, rfl⟩))
        go_ret
        exact ⟨rfl, rfl⟩
  · go_enter Tryd.func3, Tryd.ntmps3
    go_wp2_with (first | (go_at_call 10; refine (next_any _ _ _ _ hT).mono ?_; rintro e w' ⟨rfl, rfl⟩) | (go_at_call 11; refine (may_any _ _).mono ?_; rintro e w' ⟨rfl, rfl⟩) | (go_at_call 12; refine (ours_any _ _ _).mono ?_; rintro e w' ⟨rfl, rfl⟩) | (go_at_call 9; refine (shown_any _ hT).mono ?_; rintro e w' ⟨rfl, rfl⟩))
    refine wp_loop_rounds 1 ?_
    rw [rounds_succ]
    go_wp2_with (first | (go_at_call 10; refine (next_any _ _ _ _ hT).mono ?_; rintro e w' ⟨rfl, rfl⟩) | (go_at_call 11; refine (may_any _ _).mono ?_; rintro e w' ⟨rfl, rfl⟩) | (go_at_call 12; refine (ours_any _ _ _).mono ?_; rintro e w' ⟨rfl, rfl⟩) | (go_at_call 9; refine (shown_any _ hT).mono ?_; rintro e w' ⟨rfl, rfl⟩))
    go_loop [10, 11] (fun s i => ∃ k : Nat, k ≤ 8 ∧ i = .int .i64 k ∧ s = .int .i64 (comes true k)) (fun _ i => 8 - (intOf i).toNat)
    case atStart => exact ⟨0, by omega, rfl, rfl⟩
    case round =>
      obtain ⟨j, hj, rfl, rfl⟩ := hrel
      by_cases hjl : j < 8
      · go_wp2_with (first | (go_at_call 10; refine (next_any _ _ _ _ hT).mono ?_; rintro e w' ⟨rfl, rfl⟩) | (go_at_call 11; refine (may_any _ _).mono ?_; rintro e w' ⟨rfl, rfl⟩) | (go_at_call 12; refine (ours_any _ _ _).mono ?_; rintro e w' ⟨rfl, rfl⟩) | (go_at_call 9; refine (shown_any _ hT).mono ?_; rintro e w' ⟨rfl, rfl⟩))
        go_round
        case rel => exact ⟨j + 1, by omega, by go_num, rfl⟩
        case measure => simp [intOf]; omega
      · obtain rfl : j = 8 := by omega
        rw [comes_end]
        go_wp2_with (first | (go_at_call 10; refine (next_any _ _ _ _ hT).mono ?_; rintro e w' ⟨rfl, rfl⟩) | (go_at_call 11; refine (may_any _ _).mono ?_; rintro e w' ⟨rfl, rfl⟩) | (go_at_call 12; refine (ours_any _ _ _).mono ?_; rintro e w' ⟨rfl, rfl⟩) | (go_at_call 9; refine (shown_any _ hT).mono ?_; rintro e w' ⟨rfl, rfl⟩))
        go_ret
        exact ⟨rfl, rfl⟩

def chg (own : Bool) (s : Int) : Int := if own then (if s < 3 then 0 else if s ≤ 5 then 1 else 2) else (if s < 1 then 0 else if s ≤ 7 then 1 else 2)
/-- A step that goes on by one at most, or from 4 to 5 first: the count of changes goes with what is seen. -/
theorem chg_step (own : Bool) (s n : Int) (h0 : 0 ≤ s) (h1 : s ≤ 9) (hn : n = s ∨ n = s + 1 ∨ (s = 4 ∧ (n = 5 ∨ n = 6))) :
    (theirs n (!own) = theirs s (!own) ∧ chg own n = chg own s) ∨ ((theirs n (!own) = !theirs s (!own)) ∧ chg own n = chg own s + 1) := by
  have hs : s = 0 ∨ s = 1 ∨ s = 2 ∨ s = 3 ∨ s = 4 ∨ s = 5 ∨ s = 6 ∨ s = 7 ∨ s = 8 ∨ s = 9 := by omega
  rcases hs with h | h | h | h | h | h | h | h | h | h <;> subst h <;> rcases hn with h | h | ⟨h4, h | h⟩ <;> first | omega | (subst h; cases own <;> decide)
theorem chg_range (own : Bool) (s : Int) : 0 ≤ chg own s ∧ chg own s ≤ 2 ∧ (4 ≤ s → 1 ≤ chg own s) := by
  unfold chg
  cases own
  · simp only [Bool.false_eq_true, if_false]; split
    · omega
    · split <;> omega
  · simp only [if_true]; split
    · omega
    · split <;> omega

theorem next_near (s0 s : Int) (own : Bool) (e : Int) (h0 : 0 ≤ s0) (h1 : s0 ≤ 9) (hs : s = s0 ∨ (s0 = 4 ∧ s = 5)) :
    0 ≤ next s own e ∧ next s own e ≤ 9 ∧ (next s own e = s0 ∨ next s own e = s0 + 1 ∨ (s0 = 4 ∧ (next s own e = 5 ∨ next s own e = 6))) := by
  rcases next_cases s own e with h | ⟨h, hw⟩
  · rw [h]; omega
  · have := want_ne hw
    rw [h]; omega
theorem once_yes (s0 s : Int) (own : Bool) (e : Int) (h0 : 0 ≤ s0) (h1 : s0 ≤ 9) (hs : s = s0 ∨ (s0 = 4 ∧ s = 5)) (h : (!theirs (next s own e) (!own) == theirs s0 (!own)) = true) :
    0 ≤ next s own e ∧ next s own e ≤ 9 ∧ Value.int .i64 (wrap64 (chg own s0 + 1)) = .int .i64 (chg own (next s own e)) ∧ Value.int .i64 (chg own s0 + 1) = .int .i64 (chg own (next s own e)) ∧ Value.bool (!theirs s0 (!own)) = .bool (theirs (next s own e) (!own)) := by
  obtain ⟨g0, g1, g2⟩ := next_near s0 s own e h0 h1 hs
  have hr := chg_range own s0
  rcases chg_step own s0 (next s own e) h0 h1 g2 with ⟨ht, hc⟩ | ⟨ht, hc⟩
  · rw [ht] at h; simp at h
  · refine ⟨g0, g1, ?_, by rw [hc], by rw [ht]⟩
    rw [hc]; congr 1; unfold wrap64; omega
theorem once_no (s0 s : Int) (own : Bool) (e : Int) (h0 : 0 ≤ s0) (h1 : s0 ≤ 9) (hs : s = s0 ∨ (s0 = 4 ∧ s = 5)) (h : (!theirs (next s own e) (!own) == theirs s0 (!own)) = false) :
    0 ≤ next s own e ∧ next s own e ≤ 9 ∧ Value.int .i64 (chg own s0) = .int .i64 (chg own (next s own e)) ∧ Value.bool (theirs s0 (!own)) = .bool (theirs (next s own e) (!own)) := by
  obtain ⟨g0, g1, g2⟩ := next_near s0 s own e h0 h1 hs
  rcases chg_step own s0 (next s own e) h0 h1 g2 with ⟨ht, hc⟩ | ⟨ht, hc⟩
  · exact ⟨g0, g1, by rw [hc], by rw [ht]⟩
  · rw [ht] at h; simp at h

set_option maxHeartbeats 2000000 in
theorem once_any (own : Bool) (xs : List Int) (b off len cap : Nat) (w : World) (hT : Tab w) (hm : len ≤ 9223372036854775807)
    (hc : ∀ k, k < len → w.cell? ⟨b, off + k, none⟩ = some (.int .u8 (xs.getD k 0))) (hx : ∀ k, 0 ≤ xs.getD k 0 ∧ xs.getD k 0 ≤ 255) :
    Calls Tryd.prog 4 #[.bool own, .slice (some ⟨b, off, none⟩) len cap] w fun r w' => r = .returned (.bool true) ∧ w = w' := by
  cases own
  · have HC := Lib.hid hc
    have HX := Lib.hid hx
    clear hc hx
    by_cases hL : 200 < len
    · go_enter Tryd.func4, Tryd.ntmps4
      go_wp2_with (first | (go_at_call 10; refine (next_any _ _ _ _ hT).mono ?_; rintro e w' ⟨rfl, rfl⟩) | (go_at_call 11; refine (may_any _ _).mono ?_; rintro e w' ⟨rfl, rfl⟩) | (go_at_call 12; refine (ours_any _ _ _).mono ?_; rintro e w' ⟨rfl, rfl⟩) | (go_at_call 9; refine (shown_any _ hT).mono ?_; rintro e w' ⟨rfl, rfl⟩))
      go_ret
      exact ⟨rfl, rfl⟩
    · go_enter Tryd.func4, Tryd.ntmps4
      go_wp2_with (first | (go_at_call 10; refine (next_any _ _ _ _ hT).mono ?_; rintro e w' ⟨rfl, rfl⟩) | (go_at_call 11; refine (may_any _ _).mono ?_; rintro e w' ⟨rfl, rfl⟩) | (go_at_call 12; refine (ours_any _ _ _).mono ?_; rintro e w' ⟨rfl, rfl⟩) | (go_at_call 9; refine (shown_any _ hT).mono ?_; rintro e w' ⟨rfl, rfl⟩))
      go_loop [5, 6, 7, 8] (fun s c l i => ∃ k : Nat, ∃ s1 : Int, k ≤ len ∧ 0 ≤ s1 ∧ s1 ≤ 9 ∧ i = .int .i64 k ∧ s = .int .i64 s1 ∧ c = .int .i64 (chg false s1) ∧ l = .bool (theirs s1 (!false))) (fun _ _ _ i => len - (intOf i).toNat)
      case atStart => exact ⟨0, 0, Nat.zero_le _, by omega, by omega, rfl, rfl, rfl, rfl⟩
      case round =>
        obtain ⟨k, s1, hk, hs0, hs1, rfl, rfl, rfl, rfl⟩ := hrel
        have hr := chg_range false s1
        obtain ⟨c0, c2, c4⟩ := hr
        by_cases hlt : k < len
        · have hcell := HC.out k hlt
          have hxx := HX.out k
          obtain ⟨x, hxe⟩ : ∃ x, x = xs.getD k 0 := ⟨_, rfl⟩
          rw [← hxe] at hcell hxx
          clear hxe
          obtain ⟨x0, x1⟩ := hxx
          go_wp2_with (first | (go_at_call 10; refine (next_any _ _ _ _ hT).mono ?_; rintro e w' ⟨rfl, rfl⟩) | (go_at_call 11; refine (may_any _ _).mono ?_; rintro e w' ⟨rfl, rfl⟩) | (go_at_call 12; refine (ours_any _ _ _).mono ?_; rintro e w' ⟨rfl, rfl⟩) | (go_at_call 9; refine (shown_any _ hT).mono ?_; rintro e w' ⟨rfl, rfl⟩))
          all_goals go_round
          all_goals try (simp [intOf]; omega)
          all_goals first
            | (have L := once_yes s1 s1 false (x % 6) (by omega) (by omega) (by omega) ‹_›; exact ⟨k + 1, _, by omega, L.1, L.2.1, by go_num, rfl, by first | exact L.2.2.1 | exact L.2.2.2.1, L.2.2.2.2⟩)
            | (have L := once_no s1 s1 false (x % 6) (by omega) (by omega) (by omega) ‹_›; exact ⟨k + 1, _, by omega, L.1, L.2.1, by go_num, rfl, L.2.2.1, L.2.2.2⟩)
            | (have L := once_yes 4 4 false (x % 6) (by omega) (by omega) (by omega) ‹_›; exact ⟨k + 1, _, by omega, L.1, L.2.1, by go_num, rfl, by first | exact L.2.2.1 | exact L.2.2.2.1, L.2.2.2.2⟩)
            | (have L := once_no 4 4 false (x % 6) (by omega) (by omega) (by omega) ‹_›; exact ⟨k + 1, _, by omega, L.1, L.2.1, by go_num, rfl, L.2.2.1, L.2.2.2⟩)
            | (have L := once_yes 4 5 false (x % 6) (by omega) (by omega) (by omega) ‹_›; exact ⟨k + 1, _, by omega, L.1, L.2.1, by go_num, rfl, by first | exact L.2.2.1 | exact L.2.2.2.1, L.2.2.2.2⟩)
            | (have L := once_no 4 5 false (x % 6) (by omega) (by omega) (by omega) ‹_›; exact ⟨k + 1, _, by omega, L.1, L.2.1, by go_num, rfl, L.2.2.1, L.2.2.2⟩)
        · obtain rfl : k = len := by omega
          by_cases h4 : s1 < 4
          · go_wp2_with (first | (go_at_call 10; refine (next_any _ _ _ _ hT).mono ?_; rintro e w' ⟨rfl, rfl⟩) | (go_at_call 11; refine (may_any _ _).mono ?_; rintro e w' ⟨rfl, rfl⟩) | (go_at_call 12; refine (ours_any _ _ _).mono ?_; rintro e w' ⟨rfl, rfl⟩) | (go_at_call 9; refine (shown_any _ hT).mono ?_; rintro e w' ⟨rfl, rfl⟩))
            go_ret
            exact ⟨rfl, rfl⟩
          · have c5 := c4 (by omega)
            go_wp2_with (first | (go_at_call 10; refine (next_any _ _ _ _ hT).mono ?_; rintro e w' ⟨rfl, rfl⟩) | (go_at_call 11; refine (may_any _ _).mono ?_; rintro e w' ⟨rfl, rfl⟩) | (go_at_call 12; refine (ours_any _ _ _).mono ?_; rintro e w' ⟨rfl, rfl⟩) | (go_at_call 9; refine (shown_any _ hT).mono ?_; rintro e w' ⟨rfl, rfl⟩))
            go_ret
            exact ⟨rfl, rfl⟩
  · have HC := Lib.hid hc
    have HX := Lib.hid hx
    clear hc hx
    by_cases hL : 200 < len
    · go_enter Tryd.func4, Tryd.ntmps4
      go_wp2_with (first | (go_at_call 10; refine (next_any _ _ _ _ hT).mono ?_; rintro e w' ⟨rfl, rfl⟩) | (go_at_call 11; refine (may_any _ _).mono ?_; rintro e w' ⟨rfl, rfl⟩) | (go_at_call 12; refine (ours_any _ _ _).mono ?_; rintro e w' ⟨rfl, rfl⟩) | (go_at_call 9; refine (shown_any _ hT).mono ?_; rintro e w' ⟨rfl, rfl⟩))
      go_ret
      exact ⟨rfl, rfl⟩
    · go_enter Tryd.func4, Tryd.ntmps4
      go_wp2_with (first | (go_at_call 10; refine (next_any _ _ _ _ hT).mono ?_; rintro e w' ⟨rfl, rfl⟩) | (go_at_call 11; refine (may_any _ _).mono ?_; rintro e w' ⟨rfl, rfl⟩) | (go_at_call 12; refine (ours_any _ _ _).mono ?_; rintro e w' ⟨rfl, rfl⟩) | (go_at_call 9; refine (shown_any _ hT).mono ?_; rintro e w' ⟨rfl, rfl⟩))
      go_loop [5, 6, 7, 8] (fun s c l i => ∃ k : Nat, ∃ s1 : Int, k ≤ len ∧ 0 ≤ s1 ∧ s1 ≤ 9 ∧ i = .int .i64 k ∧ s = .int .i64 s1 ∧ c = .int .i64 (chg true s1) ∧ l = .bool (theirs s1 (!true))) (fun _ _ _ i => len - (intOf i).toNat)
      case atStart => exact ⟨0, 0, Nat.zero_le _, by omega, by omega, rfl, rfl, rfl, rfl⟩
      case round =>
        obtain ⟨k, s1, hk, hs0, hs1, rfl, rfl, rfl, rfl⟩ := hrel
        have hr := chg_range true s1
        obtain ⟨c0, c2, c4⟩ := hr
        by_cases hlt : k < len
        · have hcell := HC.out k hlt
          have hxx := HX.out k
          obtain ⟨x, hxe⟩ : ∃ x, x = xs.getD k 0 := ⟨_, rfl⟩
          rw [← hxe] at hcell hxx
          clear hxe
          obtain ⟨x0, x1⟩ := hxx
          go_wp2_with (first | (go_at_call 10; refine (next_any _ _ _ _ hT).mono ?_; rintro e w' ⟨rfl, rfl⟩) | (go_at_call 11; refine (may_any _ _).mono ?_; rintro e w' ⟨rfl, rfl⟩) | (go_at_call 12; refine (ours_any _ _ _).mono ?_; rintro e w' ⟨rfl, rfl⟩) | (go_at_call 9; refine (shown_any _ hT).mono ?_; rintro e w' ⟨rfl, rfl⟩))
          all_goals go_round
          all_goals try (simp [intOf]; omega)
          all_goals first
            | (have L := once_yes s1 s1 true (x % 6) (by omega) (by omega) (by omega) ‹_›; exact ⟨k + 1, _, by omega, L.1, L.2.1, by go_num, rfl, by first | exact L.2.2.1 | exact L.2.2.2.1, L.2.2.2.2⟩)
            | (have L := once_no s1 s1 true (x % 6) (by omega) (by omega) (by omega) ‹_›; exact ⟨k + 1, _, by omega, L.1, L.2.1, by go_num, rfl, L.2.2.1, L.2.2.2⟩)
            | (have L := once_yes 4 4 true (x % 6) (by omega) (by omega) (by omega) ‹_›; exact ⟨k + 1, _, by omega, L.1, L.2.1, by go_num, rfl, by first | exact L.2.2.1 | exact L.2.2.2.1, L.2.2.2.2⟩)
            | (have L := once_no 4 4 true (x % 6) (by omega) (by omega) (by omega) ‹_›; exact ⟨k + 1, _, by omega, L.1, L.2.1, by go_num, rfl, L.2.2.1, L.2.2.2⟩)
            | (have L := once_yes 4 5 true (x % 6) (by omega) (by omega) (by omega) ‹_›; exact ⟨k + 1, _, by omega, L.1, L.2.1, by go_num, rfl, by first | exact L.2.2.1 | exact L.2.2.2.1, L.2.2.2.2⟩)
            | (have L := once_no 4 5 true (x % 6) (by omega) (by omega) (by omega) ‹_›; exact ⟨k + 1, _, by omega, L.1, L.2.1, by go_num, rfl, L.2.2.1, L.2.2.2⟩)
        · obtain rfl : k = len := by omega
          by_cases h4 : s1 < 4
          · go_wp2_with (first | (go_at_call 10; refine (next_any _ _ _ _ hT).mono ?_; rintro e w' ⟨rfl, rfl⟩) | (go_at_call 11; refine (may_any _ _).mono ?_; rintro e w' ⟨rfl, rfl⟩) | (go_at_call 12; refine (ours_any _ _ _).mono ?_; rintro e w' ⟨rfl, rfl⟩) | (go_at_call 9; refine (shown_any _ hT).mono ?_; rintro e w' ⟨rfl, rfl⟩))
            go_ret
            exact ⟨rfl, rfl⟩
          · have c5 := c4 (by omega)
            go_wp2_with (first | (go_at_call 10; refine (next_any _ _ _ _ hT).mono ?_; rintro e w' ⟨rfl, rfl⟩) | (go_at_call 11; refine (may_any _ _).mono ?_; rintro e w' ⟨rfl, rfl⟩) | (go_at_call 12; refine (ours_any _ _ _).mono ?_; rintro e w' ⟨rfl, rfl⟩) | (go_at_call 9; refine (shown_any _ hT).mono ?_; rintro e w' ⟨rfl, rfl⟩))
            go_ret
            exact ⟨rfl, rfl⟩

theorem once_nil (own : Bool) (ao : Option Addr) (cap : Nat) (w : World) (hT : Tab w) :
    Calls Tryd.prog 4 #[.bool own, .slice ao 0 cap] w fun r w' => r = .returned (.bool true) ∧ w = w' := by
  cases own
  all_goals
    go_enter Tryd.func4, Tryd.ntmps4
    go_wp2_with (first | (go_at_call 10; refine (next_any _ _ _ _ hT).mono ?_; rintro e w' ⟨rfl, rfl⟩) | (go_at_call 11; refine (may_any _ _).mono ?_; rintro e w' ⟨rfl, rfl⟩) | (go_at_call 12; refine (ours_any _ _ _).mono ?_; rintro e w' ⟨rfl, rfl⟩) | (go_at_call 9; refine (shown_any _ hT).mono ?_; rintro e w' ⟨rfl, rfl⟩))
    refine wp_loop_rounds 1 ?_
    rw [rounds_succ]
    go_wp2_with (first | (go_at_call 10; refine (next_any _ _ _ _ hT).mono ?_; rintro e w' ⟨rfl, rfl⟩) | (go_at_call 11; refine (may_any _ _).mono ?_; rintro e w' ⟨rfl, rfl⟩) | (go_at_call 12; refine (ours_any _ _ _).mono ?_; rintro e w' ⟨rfl, rfl⟩) | (go_at_call 9; refine (shown_any _ hT).mono ?_; rintro e w' ⟨rfl, rfl⟩))
    go_ret
    exact ⟨rfl, rfl⟩
end Go.Proofs.YtcgigoidmnpijaaDoor.Htlc
