/- The walks of layer 11's laws that take no list: each answers true, and leaves memory alone. -/
import Derived.Test.YtcgigoidmnpijaaDoorHtlcWalks
namespace Go.Proofs.YtcgigoidmnpijaaDoor.Htlc
open Go.RowKit

theorem shown_any (w : World) (hT : Tab w) :
    Calls Tryd.prog 9 #[] w fun r w' => r = .returned (.bool true) ∧ w = w' := by
  go_enter Tryd.func9, Tryd.ntmps9
  go_wp2_with (go_at_call 10; refine (next_any _ _ _ _ hT).mono ?_; rintro e w' ⟨rfl, rfl⟩)
  all_goals go_ret
  all_goals (exact ⟨ret_bool (by decide), rfl⟩)

theorem tells_any (s : Int) (own : Bool) (e : Int) (w : World) (hT : Tab w) :
    Calls Tryd.prog 5 #[.int .i64 s, .bool own, .int .i64 e] w fun r w' => r = .returned (.bool true) ∧ w = w' := by
  cases own
  all_goals
    go_enter Tryd.func5, Tryd.ntmps5
    go_wp2_with (first | (go_at_call 10; refine (next_any _ _ _ _ hT).mono ?_; rintro e w' ⟨rfl, rfl⟩) | (go_at_call 11; refine (may_any _ _).mono ?_; rintro e w' ⟨rfl, rfl⟩) | (go_at_call 12; refine (ours_any _ _ _).mono ?_; rintro e w' ⟨rfl, rfl⟩) | (go_at_call 17; refine (theirs_any _ _ _).mono ?_; rintro e w' ⟨rfl, rfl⟩) | (go_at_call 13; refine (settled_any _ _ _).mono ?_; rintro e w' ⟨rfl, rfl⟩) | (go_at_call 15; refine (refnext_any _ _ _ _).mono ?_; rintro e w' ⟨rfl, rfl⟩) | (go_at_call 19; refine (refmay_any _ _).mono ?_; rintro e w' ⟨rfl, rfl⟩) | (go_at_call 16; refine (refours_any _ _ _).mono ?_; rintro e w' ⟨rfl, rfl⟩) | (go_at_call 18; refine (reftheirs_any _ _ _).mono ?_; rintro e w' ⟨rfl, rfl⟩) | (go_at_call 14; refine (refsettled_any _ _ _).mono ?_; rintro e w' ⟨rfl, rfl⟩) | (go_at_call 9; refine (shown_any _ hT).mono ?_; rintro e w' ⟨rfl, rfl⟩))
    go_ret
    exact ⟨rfl, rfl⟩

theorem mirror_next (s : Int) (own : Bool) (e : Int) (h0 : 1 ≤ e) (h1 : e ≤ 4) : next s own e = next s (!own) ((e + 1) % 4 + 1) := by
  have hr := want_range s
  have ht := turn_mirrored e (want s)
  have hu := turn_mirrored ((e + 1) % 4 + 1) (want s)
  cases own
  · simp only [next, Bool.not_false, if_true]
    by_cases hw : 0 < want s
    · have h3 := ht hw hr.2
      have h4 : (mirrored e = want s) = ((e + 1) % 4 + 1 = want s) := by
        rw [← h3]; ext; omega
      simp [h4]
    · rw [if_neg (by omega), if_neg (by omega)]
  · simp only [next, Bool.not_true, if_true]
    by_cases hw : 0 < want s
    · have h3 := hu hw hr.2
      have h4 : (mirrored ((e + 1) % 4 + 1) = want s) = (e = want s) := by
        rw [← h3]; ext; omega
      simp [h4]
    · rw [if_neg (by omega), if_neg (by omega)]

theorem mirror_any (s : Int) (own : Bool) (e : Int) (w : World) (hT : Tab w) (h0 : 0 ≤ s) (h1 : s ≤ 255) (e0 : 0 ≤ e) (e1 : e ≤ 255) :
    Calls Tryd.prog 6 #[.int .u8 s, .bool own, .int .u8 e] w fun r w' => r = .returned (.bool true) ∧ w = w' := by
  cases own
  · go_enter Tryd.func6, Tryd.ntmps6
    go_wp2_with (first | (go_at_call 10; refine (next_any _ _ _ _ hT).mono ?_; rintro e w' ⟨rfl, rfl⟩) | (go_at_call 11; refine (may_any _ _).mono ?_; rintro e w' ⟨rfl, rfl⟩) | (go_at_call 12; refine (ours_any _ _ _).mono ?_; rintro e w' ⟨rfl, rfl⟩) | (go_at_call 17; refine (theirs_any _ _ _).mono ?_; rintro e w' ⟨rfl, rfl⟩) | (go_at_call 13; refine (settled_any _ _ _).mono ?_; rintro e w' ⟨rfl, rfl⟩) | (go_at_call 15; refine (refnext_any _ _ _ _).mono ?_; rintro e w' ⟨rfl, rfl⟩) | (go_at_call 19; refine (refmay_any _ _).mono ?_; rintro e w' ⟨rfl, rfl⟩) | (go_at_call 16; refine (refours_any _ _ _).mono ?_; rintro e w' ⟨rfl, rfl⟩) | (go_at_call 18; refine (reftheirs_any _ _ _).mono ?_; rintro e w' ⟨rfl, rfl⟩) | (go_at_call 14; refine (refsettled_any _ _ _).mono ?_; rintro e w' ⟨rfl, rfl⟩) | (go_at_call 9; refine (shown_any _ hT).mono ?_; rintro e w' ⟨rfl, rfl⟩))
    · go_ret
      exact ⟨rfl, rfl⟩
    · exact absurd (mirror_next (s % 10) false (1 + e % 4) (by omega) (by omega)) ‹_›
  · go_enter Tryd.func6, Tryd.ntmps6
    go_wp2_with (first | (go_at_call 10; refine (next_any _ _ _ _ hT).mono ?_; rintro e w' ⟨rfl, rfl⟩) | (go_at_call 11; refine (may_any _ _).mono ?_; rintro e w' ⟨rfl, rfl⟩) | (go_at_call 12; refine (ours_any _ _ _).mono ?_; rintro e w' ⟨rfl, rfl⟩) | (go_at_call 17; refine (theirs_any _ _ _).mono ?_; rintro e w' ⟨rfl, rfl⟩) | (go_at_call 13; refine (settled_any _ _ _).mono ?_; rintro e w' ⟨rfl, rfl⟩) | (go_at_call 15; refine (refnext_any _ _ _ _).mono ?_; rintro e w' ⟨rfl, rfl⟩) | (go_at_call 19; refine (refmay_any _ _).mono ?_; rintro e w' ⟨rfl, rfl⟩) | (go_at_call 16; refine (refours_any _ _ _).mono ?_; rintro e w' ⟨rfl, rfl⟩) | (go_at_call 18; refine (reftheirs_any _ _ _).mono ?_; rintro e w' ⟨rfl, rfl⟩) | (go_at_call 14; refine (refsettled_any _ _ _).mono ?_; rintro e w' ⟨rfl, rfl⟩) | (go_at_call 9; refine (shown_any _ hT).mono ?_; rintro e w' ⟨rfl, rfl⟩))
    · go_ret
      exact ⟨rfl, rfl⟩
    · exact absurd (mirror_next (s % 10) true (1 + e % 4) (by omega) (by omega)) ‹_›

theorem next_none (s : Int) (own : Bool) (e : Int) (h : e < 1 ∨ 4 < e) : next s own e = s := by
  have hr := want_range s
  have hm : mirrored e = e := by
    unfold mirrored; rw [if_neg (by omega), if_neg (by omega), if_neg (by omega), if_neg (by omega)]
  unfold next
  rw [hm]
  cases own <;> (simp only [if_true, Bool.false_eq_true, if_false]; rw [if_neg (by omega)])
theorem next_stays (s : Int) (own : Bool) (e : Int) (h : mayB s = false) : next s own e = s := by
  have := want_out s h
  unfold next
  rw [if_neg (by omega)]
theorem all_out (s : Int) (own : Bool) (h : s < 0 ∨ 9 < s) : mayB s = false ∧ setO s own = false ∧ setT s own = false ∧ theirs s own = false := by
  refine ⟨?_, ?_, ?_, ?_⟩ <;> cases own <;> simp [mayB, setO, setT, theirs, early, late] <;> omega
theorem may_of {s : Int} (h0 : 0 ≤ s) (h1 : s ≤ 9) : mayB s = true := by simp [mayB, h0, h1]

theorem out_lo_in (s : Int) (own : Bool) (e : Int) (w : World) (hT : Tab w) (h0 : s < 0) (e0 : 1 ≤ e) (e1 : e ≤ 4) :
    Calls Tryd.prog 8 #[.int .i64 s, .bool own, .int .i64 e] w fun r w' => r = .returned (.bool true) ∧ w = w' := by
  obtain ⟨hm, ho, ht, h3⟩ := all_out s own (.inl h0)
  have h4 := (all_out s true (.inl h0)).2.2.2
  have h5 := (all_out s false (.inl h0)).2.2.2
  have h6 : decide (0 ≤ s) = false := by simp; omega
  have hn := next_stays s own e hm
  cases own
  all_goals
    go_enter Tryd.func8, Tryd.ntmps8
    go_wp2_with (first | (go_at_call 10; refine (next_any _ _ _ _ hT).mono ?_; rintro e w' ⟨rfl, rfl⟩) | (go_at_call 11; refine (may_any _ _).mono ?_; rintro e w' ⟨rfl, rfl⟩) | (go_at_call 12; refine (ours_any _ _ _).mono ?_; rintro e w' ⟨rfl, rfl⟩) | (go_at_call 17; refine (theirs_any _ _ _).mono ?_; rintro e w' ⟨rfl, rfl⟩) | (go_at_call 13; refine (settled_any _ _ _).mono ?_; rintro e w' ⟨rfl, rfl⟩) | (go_at_call 15; refine (refnext_any _ _ _ _).mono ?_; rintro e w' ⟨rfl, rfl⟩) | (go_at_call 19; refine (refmay_any _ _).mono ?_; rintro e w' ⟨rfl, rfl⟩) | (go_at_call 16; refine (refours_any _ _ _).mono ?_; rintro e w' ⟨rfl, rfl⟩) | (go_at_call 18; refine (reftheirs_any _ _ _).mono ?_; rintro e w' ⟨rfl, rfl⟩) | (go_at_call 14; refine (refsettled_any _ _ _).mono ?_; rintro e w' ⟨rfl, rfl⟩) | (go_at_call 9; refine (shown_any _ hT).mono ?_; rintro e w' ⟨rfl, rfl⟩))
    go_ret
    exact ⟨rfl, rfl⟩
theorem out_lo_lo (s : Int) (own : Bool) (e : Int) (w : World) (hT : Tab w) (h0 : s < 0) (e0 : e < 1) :
    Calls Tryd.prog 8 #[.int .i64 s, .bool own, .int .i64 e] w fun r w' => r = .returned (.bool true) ∧ w = w' := by
  obtain ⟨hm, ho, ht, h3⟩ := all_out s own (.inl h0)
  have h4 := (all_out s true (.inl h0)).2.2.2
  have h5 := (all_out s false (.inl h0)).2.2.2
  have h6 : decide (0 ≤ s) = false := by simp; omega
  have hn := next_stays s own e hm
  cases own
  all_goals
    go_enter Tryd.func8, Tryd.ntmps8
    go_wp2_with (first | (go_at_call 10; refine (next_any _ _ _ _ hT).mono ?_; rintro e w' ⟨rfl, rfl⟩) | (go_at_call 11; refine (may_any _ _).mono ?_; rintro e w' ⟨rfl, rfl⟩) | (go_at_call 12; refine (ours_any _ _ _).mono ?_; rintro e w' ⟨rfl, rfl⟩) | (go_at_call 17; refine (theirs_any _ _ _).mono ?_; rintro e w' ⟨rfl, rfl⟩) | (go_at_call 13; refine (settled_any _ _ _).mono ?_; rintro e w' ⟨rfl, rfl⟩) | (go_at_call 15; refine (refnext_any _ _ _ _).mono ?_; rintro e w' ⟨rfl, rfl⟩) | (go_at_call 19; refine (refmay_any _ _).mono ?_; rintro e w' ⟨rfl, rfl⟩) | (go_at_call 16; refine (refours_any _ _ _).mono ?_; rintro e w' ⟨rfl, rfl⟩) | (go_at_call 18; refine (reftheirs_any _ _ _).mono ?_; rintro e w' ⟨rfl, rfl⟩) | (go_at_call 14; refine (refsettled_any _ _ _).mono ?_; rintro e w' ⟨rfl, rfl⟩) | (go_at_call 9; refine (shown_any _ hT).mono ?_; rintro e w' ⟨rfl, rfl⟩))
    go_ret
    exact ⟨rfl, rfl⟩
theorem out_lo_hi (s : Int) (own : Bool) (e : Int) (w : World) (hT : Tab w) (h0 : s < 0) (e0 : 4 < e) :
    Calls Tryd.prog 8 #[.int .i64 s, .bool own, .int .i64 e] w fun r w' => r = .returned (.bool true) ∧ w = w' := by
  obtain ⟨hm, ho, ht, h3⟩ := all_out s own (.inl h0)
  have h4 := (all_out s true (.inl h0)).2.2.2
  have h5 := (all_out s false (.inl h0)).2.2.2
  have h6 : decide (0 ≤ s) = false := by simp; omega
  have hn := next_stays s own e hm
  cases own
  all_goals
    go_enter Tryd.func8, Tryd.ntmps8
    go_wp2_with (first | (go_at_call 10; refine (next_any _ _ _ _ hT).mono ?_; rintro e w' ⟨rfl, rfl⟩) | (go_at_call 11; refine (may_any _ _).mono ?_; rintro e w' ⟨rfl, rfl⟩) | (go_at_call 12; refine (ours_any _ _ _).mono ?_; rintro e w' ⟨rfl, rfl⟩) | (go_at_call 17; refine (theirs_any _ _ _).mono ?_; rintro e w' ⟨rfl, rfl⟩) | (go_at_call 13; refine (settled_any _ _ _).mono ?_; rintro e w' ⟨rfl, rfl⟩) | (go_at_call 15; refine (refnext_any _ _ _ _).mono ?_; rintro e w' ⟨rfl, rfl⟩) | (go_at_call 19; refine (refmay_any _ _).mono ?_; rintro e w' ⟨rfl, rfl⟩) | (go_at_call 16; refine (refours_any _ _ _).mono ?_; rintro e w' ⟨rfl, rfl⟩) | (go_at_call 18; refine (reftheirs_any _ _ _).mono ?_; rintro e w' ⟨rfl, rfl⟩) | (go_at_call 14; refine (refsettled_any _ _ _).mono ?_; rintro e w' ⟨rfl, rfl⟩) | (go_at_call 9; refine (shown_any _ hT).mono ?_; rintro e w' ⟨rfl, rfl⟩))
    go_ret
    exact ⟨rfl, rfl⟩
theorem out_hi_in (s : Int) (own : Bool) (e : Int) (w : World) (hT : Tab w) (h0 : 9 < s) (e0 : 1 ≤ e) (e1 : e ≤ 4) :
    Calls Tryd.prog 8 #[.int .i64 s, .bool own, .int .i64 e] w fun r w' => r = .returned (.bool true) ∧ w = w' := by
  obtain ⟨hm, ho, ht, h3⟩ := all_out s own (.inr h0)
  have h4 := (all_out s true (.inr h0)).2.2.2
  have h5 := (all_out s false (.inr h0)).2.2.2
  have h6 : decide (s ≤ 9) = false := by simp; omega
  have hn := next_stays s own e hm
  cases own
  all_goals
    go_enter Tryd.func8, Tryd.ntmps8
    go_wp2_with (first | (go_at_call 10; refine (next_any _ _ _ _ hT).mono ?_; rintro e w' ⟨rfl, rfl⟩) | (go_at_call 11; refine (may_any _ _).mono ?_; rintro e w' ⟨rfl, rfl⟩) | (go_at_call 12; refine (ours_any _ _ _).mono ?_; rintro e w' ⟨rfl, rfl⟩) | (go_at_call 17; refine (theirs_any _ _ _).mono ?_; rintro e w' ⟨rfl, rfl⟩) | (go_at_call 13; refine (settled_any _ _ _).mono ?_; rintro e w' ⟨rfl, rfl⟩) | (go_at_call 15; refine (refnext_any _ _ _ _).mono ?_; rintro e w' ⟨rfl, rfl⟩) | (go_at_call 19; refine (refmay_any _ _).mono ?_; rintro e w' ⟨rfl, rfl⟩) | (go_at_call 16; refine (refours_any _ _ _).mono ?_; rintro e w' ⟨rfl, rfl⟩) | (go_at_call 18; refine (reftheirs_any _ _ _).mono ?_; rintro e w' ⟨rfl, rfl⟩) | (go_at_call 14; refine (refsettled_any _ _ _).mono ?_; rintro e w' ⟨rfl, rfl⟩) | (go_at_call 9; refine (shown_any _ hT).mono ?_; rintro e w' ⟨rfl, rfl⟩))
    go_ret
    exact ⟨rfl, rfl⟩
theorem out_hi_lo (s : Int) (own : Bool) (e : Int) (w : World) (hT : Tab w) (h0 : 9 < s) (e0 : e < 1) :
    Calls Tryd.prog 8 #[.int .i64 s, .bool own, .int .i64 e] w fun r w' => r = .returned (.bool true) ∧ w = w' := by
  obtain ⟨hm, ho, ht, h3⟩ := all_out s own (.inr h0)
  have h4 := (all_out s true (.inr h0)).2.2.2
  have h5 := (all_out s false (.inr h0)).2.2.2
  have h6 : decide (s ≤ 9) = false := by simp; omega
  have hn := next_stays s own e hm
  cases own
  all_goals
    go_enter Tryd.func8, Tryd.ntmps8
    go_wp2_with (first | (go_at_call 10; refine (next_any _ _ _ _ hT).mono ?_; rintro e w' ⟨rfl, rfl⟩) | (go_at_call 11; refine (may_any _ _).mono ?_; rintro e w' ⟨rfl, rfl⟩) | (go_at_call 12; refine (ours_any _ _ _).mono ?_; rintro e w' ⟨rfl, rfl⟩) | (go_at_call 17; refine (theirs_any _ _ _).mono ?_; rintro e w' ⟨rfl, rfl⟩) | (go_at_call 13; refine (settled_any _ _ _).mono ?_; rintro e w' ⟨rfl, rfl⟩) | (go_at_call 15; refine (refnext_any _ _ _ _).mono ?_; rintro e w' ⟨rfl, rfl⟩) | (go_at_call 19; refine (refmay_any _ _).mono ?_; rintro e w' ⟨rfl, rfl⟩) | (go_at_call 16; refine (refours_any _ _ _).mono ?_; rintro e w' ⟨rfl, rfl⟩) | (go_at_call 18; refine (reftheirs_any _ _ _).mono ?_; rintro e w' ⟨rfl, rfl⟩) | (go_at_call 14; refine (refsettled_any _ _ _).mono ?_; rintro e w' ⟨rfl, rfl⟩) | (go_at_call 9; refine (shown_any _ hT).mono ?_; rintro e w' ⟨rfl, rfl⟩))
    go_ret
    exact ⟨rfl, rfl⟩
theorem out_hi_hi (s : Int) (own : Bool) (e : Int) (w : World) (hT : Tab w) (h0 : 9 < s) (e0 : 4 < e) :
    Calls Tryd.prog 8 #[.int .i64 s, .bool own, .int .i64 e] w fun r w' => r = .returned (.bool true) ∧ w = w' := by
  obtain ⟨hm, ho, ht, h3⟩ := all_out s own (.inr h0)
  have h4 := (all_out s true (.inr h0)).2.2.2
  have h5 := (all_out s false (.inr h0)).2.2.2
  have h6 : decide (s ≤ 9) = false := by simp; omega
  have hn := next_stays s own e hm
  cases own
  all_goals
    go_enter Tryd.func8, Tryd.ntmps8
    go_wp2_with (first | (go_at_call 10; refine (next_any _ _ _ _ hT).mono ?_; rintro e w' ⟨rfl, rfl⟩) | (go_at_call 11; refine (may_any _ _).mono ?_; rintro e w' ⟨rfl, rfl⟩) | (go_at_call 12; refine (ours_any _ _ _).mono ?_; rintro e w' ⟨rfl, rfl⟩) | (go_at_call 17; refine (theirs_any _ _ _).mono ?_; rintro e w' ⟨rfl, rfl⟩) | (go_at_call 13; refine (settled_any _ _ _).mono ?_; rintro e w' ⟨rfl, rfl⟩) | (go_at_call 15; refine (refnext_any _ _ _ _).mono ?_; rintro e w' ⟨rfl, rfl⟩) | (go_at_call 19; refine (refmay_any _ _).mono ?_; rintro e w' ⟨rfl, rfl⟩) | (go_at_call 16; refine (refours_any _ _ _).mono ?_; rintro e w' ⟨rfl, rfl⟩) | (go_at_call 18; refine (reftheirs_any _ _ _).mono ?_; rintro e w' ⟨rfl, rfl⟩) | (go_at_call 14; refine (refsettled_any _ _ _).mono ?_; rintro e w' ⟨rfl, rfl⟩) | (go_at_call 9; refine (shown_any _ hT).mono ?_; rintro e w' ⟨rfl, rfl⟩))
    go_ret
    exact ⟨rfl, rfl⟩
theorem out_in_in (s : Int) (own : Bool) (e : Int) (w : World) (hT : Tab w) (h0 : 0 ≤ s) (h1 : s ≤ 9) (e0 : 1 ≤ e) (e1 : e ≤ 4) :
    Calls Tryd.prog 8 #[.int .i64 s, .bool own, .int .i64 e] w fun r w' => r = .returned (.bool true) ∧ w = w' := by
  have hm := may_of h0 h1
  have hn := next_none s own e
  cases own
  all_goals
    try replace hn := hn (by omega)
    go_enter Tryd.func8, Tryd.ntmps8
    go_wp2_with (first | (go_at_call 10; refine (next_any _ _ _ _ hT).mono ?_; rintro e w' ⟨rfl, rfl⟩) | (go_at_call 11; refine (may_any _ _).mono ?_; rintro e w' ⟨rfl, rfl⟩) | (go_at_call 12; refine (ours_any _ _ _).mono ?_; rintro e w' ⟨rfl, rfl⟩) | (go_at_call 17; refine (theirs_any _ _ _).mono ?_; rintro e w' ⟨rfl, rfl⟩) | (go_at_call 13; refine (settled_any _ _ _).mono ?_; rintro e w' ⟨rfl, rfl⟩) | (go_at_call 15; refine (refnext_any _ _ _ _).mono ?_; rintro e w' ⟨rfl, rfl⟩) | (go_at_call 19; refine (refmay_any _ _).mono ?_; rintro e w' ⟨rfl, rfl⟩) | (go_at_call 16; refine (refours_any _ _ _).mono ?_; rintro e w' ⟨rfl, rfl⟩) | (go_at_call 18; refine (reftheirs_any _ _ _).mono ?_; rintro e w' ⟨rfl, rfl⟩) | (go_at_call 14; refine (refsettled_any _ _ _).mono ?_; rintro e w' ⟨rfl, rfl⟩) | (go_at_call 9; refine (shown_any _ hT).mono ?_; rintro e w' ⟨rfl, rfl⟩))
    go_ret
    exact ⟨rfl, rfl⟩
theorem out_in_lo (s : Int) (own : Bool) (e : Int) (w : World) (hT : Tab w) (h0 : 0 ≤ s) (h1 : s ≤ 9) (e0 : e < 1) :
    Calls Tryd.prog 8 #[.int .i64 s, .bool own, .int .i64 e] w fun r w' => r = .returned (.bool true) ∧ w = w' := by
  have hm := may_of h0 h1
  have hn := next_none s own e
  cases own
  all_goals
    try replace hn := hn (by omega)
    go_enter Tryd.func8, Tryd.ntmps8
    go_wp2_with (first | (go_at_call 10; refine (next_any _ _ _ _ hT).mono ?_; rintro e w' ⟨rfl, rfl⟩) | (go_at_call 11; refine (may_any _ _).mono ?_; rintro e w' ⟨rfl, rfl⟩) | (go_at_call 12; refine (ours_any _ _ _).mono ?_; rintro e w' ⟨rfl, rfl⟩) | (go_at_call 17; refine (theirs_any _ _ _).mono ?_; rintro e w' ⟨rfl, rfl⟩) | (go_at_call 13; refine (settled_any _ _ _).mono ?_; rintro e w' ⟨rfl, rfl⟩) | (go_at_call 15; refine (refnext_any _ _ _ _).mono ?_; rintro e w' ⟨rfl, rfl⟩) | (go_at_call 19; refine (refmay_any _ _).mono ?_; rintro e w' ⟨rfl, rfl⟩) | (go_at_call 16; refine (refours_any _ _ _).mono ?_; rintro e w' ⟨rfl, rfl⟩) | (go_at_call 18; refine (reftheirs_any _ _ _).mono ?_; rintro e w' ⟨rfl, rfl⟩) | (go_at_call 14; refine (refsettled_any _ _ _).mono ?_; rintro e w' ⟨rfl, rfl⟩) | (go_at_call 9; refine (shown_any _ hT).mono ?_; rintro e w' ⟨rfl, rfl⟩))
    go_ret
    exact ⟨rfl, rfl⟩
theorem out_in_hi (s : Int) (own : Bool) (e : Int) (w : World) (hT : Tab w) (h0 : 0 ≤ s) (h1 : s ≤ 9) (e0 : 4 < e) :
    Calls Tryd.prog 8 #[.int .i64 s, .bool own, .int .i64 e] w fun r w' => r = .returned (.bool true) ∧ w = w' := by
  have hm := may_of h0 h1
  have hn := next_none s own e
  cases own
  all_goals
    try replace hn := hn (by omega)
    go_enter Tryd.func8, Tryd.ntmps8
    go_wp2_with (first | (go_at_call 10; refine (next_any _ _ _ _ hT).mono ?_; rintro e w' ⟨rfl, rfl⟩) | (go_at_call 11; refine (may_any _ _).mono ?_; rintro e w' ⟨rfl, rfl⟩) | (go_at_call 12; refine (ours_any _ _ _).mono ?_; rintro e w' ⟨rfl, rfl⟩) | (go_at_call 17; refine (theirs_any _ _ _).mono ?_; rintro e w' ⟨rfl, rfl⟩) | (go_at_call 13; refine (settled_any _ _ _).mono ?_; rintro e w' ⟨rfl, rfl⟩) | (go_at_call 15; refine (refnext_any _ _ _ _).mono ?_; rintro e w' ⟨rfl, rfl⟩) | (go_at_call 19; refine (refmay_any _ _).mono ?_; rintro e w' ⟨rfl, rfl⟩) | (go_at_call 16; refine (refours_any _ _ _).mono ?_; rintro e w' ⟨rfl, rfl⟩) | (go_at_call 18; refine (reftheirs_any _ _ _).mono ?_; rintro e w' ⟨rfl, rfl⟩) | (go_at_call 14; refine (refsettled_any _ _ _).mono ?_; rintro e w' ⟨rfl, rfl⟩) | (go_at_call 9; refine (shown_any _ hT).mono ?_; rintro e w' ⟨rfl, rfl⟩))
    go_ret
    exact ⟨rfl, rfl⟩

theorem out_any (s : Int) (own : Bool) (e : Int) (w : World) (hT : Tab w) :
    Calls Tryd.prog 8 #[.int .i64 s, .bool own, .int .i64 e] w fun r w' => r = .returned (.bool true) ∧ w = w' := by
  by_cases h0 : s < 0
  · by_cases e0 : e < 1
    · exact out_lo_lo s own e w hT h0 e0
    · by_cases e1 : 4 < e
      · exact out_lo_hi s own e w hT h0 e1
      · exact out_lo_in s own e w hT h0 (by omega) (by omega)
  · by_cases h1 : 9 < s
    · by_cases e0 : e < 1
      · exact out_hi_lo s own e w hT h1 e0
      · by_cases e1 : 4 < e
        · exact out_hi_hi s own e w hT h1 e1
        · exact out_hi_in s own e w hT h1 (by omega) (by omega)
    · by_cases e0 : e < 1
      · exact out_in_lo s own e w hT (by omega) (by omega) e0
      · by_cases e1 : 4 < e
        · exact out_in_hi s own e w hT (by omega) (by omega) e1
        · exact out_in_in s own e w hT (by omega) (by omega) (by omega) (by omega)

def goes (own : Bool) (t : Int) : Nat → Int
  | 0 => 5
  | k + 1 => next (goes own t k) own (1 + (t + k) % 4)
theorem goes_mod (own : Bool) (t : Int) (k : Nat) : goes own t k = goes own (t % 4) k := by
  induction k with
  | zero => rfl
  | succ k ih => simp only [goes]; rw [ih, show (t + (k : Int)) % 4 = (t % 4 + k) % 4 from by omega]
theorem goes_end (own : Bool) (t : Int) : goes own t 16 = 9 := by
  rw [goes_mod]
  have h : t % 4 = 0 ∨ t % 4 = 1 ∨ t % 4 = 2 ∨ t % 4 = 3 := by omega
  rcases h with h | h | h | h <;> rw [h] <;> cases own <;> decide

theorem goes_any (own : Bool) (t : Int) (w : World) (hT : Tab w) (t0 : 0 ≤ t) (t1 : t ≤ 255) :
    Calls Tryd.prog 7 #[.bool own, .int .u8 t] w fun r w' => r = .returned (.bool true) ∧ w = w' := by
  cases own
  · go_enter Tryd.func7, Tryd.ntmps7
    go_wp2
    go_loop [5, 6] (fun s i => ∃ k : Nat, k ≤ 16 ∧ i = .int .i64 k ∧ s = .int .i64 (goes false t k)) (fun _ i => 16 - (intOf i).toNat)
    case atStart => exact ⟨0, Nat.zero_le _, rfl, rfl⟩
    case round =>
      obtain ⟨k, hk, rfl, rfl⟩ := hrel
      by_cases hlt : k < 16
      · go_wp2_with (first | (go_at_call 10; refine (next_any _ _ _ _ hT).mono ?_; rintro e w' ⟨rfl, rfl⟩) | (go_at_call 11; refine (may_any _ _).mono ?_; rintro e w' ⟨rfl, rfl⟩) | (go_at_call 12; refine (ours_any _ _ _).mono ?_; rintro e w' ⟨rfl, rfl⟩) | (go_at_call 17; refine (theirs_any _ _ _).mono ?_; rintro e w' ⟨rfl, rfl⟩) | (go_at_call 13; refine (settled_any _ _ _).mono ?_; rintro e w' ⟨rfl, rfl⟩) | (go_at_call 15; refine (refnext_any _ _ _ _).mono ?_; rintro e w' ⟨rfl, rfl⟩) | (go_at_call 19; refine (refmay_any _ _).mono ?_; rintro e w' ⟨rfl, rfl⟩) | (go_at_call 16; refine (refours_any _ _ _).mono ?_; rintro e w' ⟨rfl, rfl⟩) | (go_at_call 18; refine (reftheirs_any _ _ _).mono ?_; rintro e w' ⟨rfl, rfl⟩) | (go_at_call 14; refine (refsettled_any _ _ _).mono ?_; rintro e w' ⟨rfl, rfl⟩) | (go_at_call 9; refine (shown_any _ hT).mono ?_; rintro e w' ⟨rfl, rfl⟩))
        go_round
        case rel => exact ⟨k + 1, by omega, by go_num, rfl⟩
        case measure => simp [intOf]; omega
      · obtain rfl : k = 16 := by omega
        rw [goes_end]
        go_wp2_with (first | (go_at_call 10; refine (next_any _ _ _ _ hT).mono ?_; rintro e w' ⟨rfl, rfl⟩) | (go_at_call 11; refine (may_any _ _).mono ?_; rintro e w' ⟨rfl, rfl⟩) | (go_at_call 12; refine (ours_any _ _ _).mono ?_; rintro e w' ⟨rfl, rfl⟩) | (go_at_call 17; refine (theirs_any _ _ _).mono ?_; rintro e w' ⟨rfl, rfl⟩) | (go_at_call 13; refine (settled_any _ _ _).mono ?_; rintro e w' ⟨rfl, rfl⟩) | (go_at_call 15; refine (refnext_any _ _ _ _).mono ?_; rintro e w' ⟨rfl, rfl⟩) | (go_at_call 19; refine (refmay_any _ _).mono ?_; rintro e w' ⟨rfl, rfl⟩) | (go_at_call 16; refine (refours_any _ _ _).mono ?_; rintro e w' ⟨rfl, rfl⟩) | (go_at_call 18; refine (reftheirs_any _ _ _).mono ?_; rintro e w' ⟨rfl, rfl⟩) | (go_at_call 14; refine (refsettled_any _ _ _).mono ?_; rintro e w' ⟨rfl, rfl⟩) | (go_at_call 9; refine (shown_any _ hT).mono ?_; rintro e w' ⟨rfl, rfl⟩))
        go_ret
        exact ⟨rfl, rfl⟩
  · go_enter Tryd.func7, Tryd.ntmps7
    go_wp2
    go_loop [5, 6] (fun s i => ∃ k : Nat, k ≤ 16 ∧ i = .int .i64 k ∧ s = .int .i64 (goes true t k)) (fun _ i => 16 - (intOf i).toNat)
    case atStart => exact ⟨0, Nat.zero_le _, rfl, rfl⟩
    case round =>
      obtain ⟨k, hk, rfl, rfl⟩ := hrel
      by_cases hlt : k < 16
      · go_wp2_with (first | (go_at_call 10; refine (next_any _ _ _ _ hT).mono ?_; rintro e w' ⟨rfl, rfl⟩) | (go_at_call 11; refine (may_any _ _).mono ?_; rintro e w' ⟨rfl, rfl⟩) | (go_at_call 12; refine (ours_any _ _ _).mono ?_; rintro e w' ⟨rfl, rfl⟩) | (go_at_call 17; refine (theirs_any _ _ _).mono ?_; rintro e w' ⟨rfl, rfl⟩) | (go_at_call 13; refine (settled_any _ _ _).mono ?_; rintro e w' ⟨rfl, rfl⟩) | (go_at_call 15; refine (refnext_any _ _ _ _).mono ?_; rintro e w' ⟨rfl, rfl⟩) | (go_at_call 19; refine (refmay_any _ _).mono ?_; rintro e w' ⟨rfl, rfl⟩) | (go_at_call 16; refine (refours_any _ _ _).mono ?_; rintro e w' ⟨rfl, rfl⟩) | (go_at_call 18; refine (reftheirs_any _ _ _).mono ?_; rintro e w' ⟨rfl, rfl⟩) | (go_at_call 14; refine (refsettled_any _ _ _).mono ?_; rintro e w' ⟨rfl, rfl⟩) | (go_at_call 9; refine (shown_any _ hT).mono ?_; rintro e w' ⟨rfl, rfl⟩))
        go_round
        case rel => exact ⟨k + 1, by omega, by go_num, rfl⟩
        case measure => simp [intOf]; omega
      · obtain rfl : k = 16 := by omega
        rw [goes_end]
        go_wp2_with (first | (go_at_call 10; refine (next_any _ _ _ _ hT).mono ?_; rintro e w' ⟨rfl, rfl⟩) | (go_at_call 11; refine (may_any _ _).mono ?_; rintro e w' ⟨rfl, rfl⟩) | (go_at_call 12; refine (ours_any _ _ _).mono ?_; rintro e w' ⟨rfl, rfl⟩) | (go_at_call 17; refine (theirs_any _ _ _).mono ?_; rintro e w' ⟨rfl, rfl⟩) | (go_at_call 13; refine (settled_any _ _ _).mono ?_; rintro e w' ⟨rfl, rfl⟩) | (go_at_call 15; refine (refnext_any _ _ _ _).mono ?_; rintro e w' ⟨rfl, rfl⟩) | (go_at_call 19; refine (refmay_any _ _).mono ?_; rintro e w' ⟨rfl, rfl⟩) | (go_at_call 16; refine (refours_any _ _ _).mono ?_; rintro e w' ⟨rfl, rfl⟩) | (go_at_call 18; refine (reftheirs_any _ _ _).mono ?_; rintro e w' ⟨rfl, rfl⟩) | (go_at_call 14; refine (refsettled_any _ _ _).mono ?_; rintro e w' ⟨rfl, rfl⟩) | (go_at_call 9; refine (shown_any _ hT).mono ?_; rintro e w' ⟨rfl, rfl⟩))
        go_ret
        exact ⟨rfl, rfl⟩
end Go.Proofs.YtcgigoidmnpijaaDoor.Htlc
