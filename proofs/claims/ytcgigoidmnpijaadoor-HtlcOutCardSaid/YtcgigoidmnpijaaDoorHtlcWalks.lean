/- The contracts of layer 11's functions: each call answers what the plain Lean function of the same name says, and leaves memory alone. -/
import Derived.Test.YtcgigoidmnpijaaDoorRows
import Derived.WalkKit
import Derived.WalkSpells
import Derived.WalkLawsBesides
import Derived.Deep.QuietTactic
import Derived.BigQuiet
import Derived.Lib.Hide
namespace Go.Proofs.YtcgigoidmnpijaaDoor.Htlc
open Go.RowKit

theorem ret_bool {a b : Bool} (h : a = b) : Ending.returned (.bool a) = .returned (.bool b) := by rw [h]
theorem ret_int {k : IntKind} {a b : Int} (h : a = b) : Ending.returned (.int k a) = .returned (.int k b) := by rw [h]
theorem ret_bools {a b c d : Bool} (h : a = c) (h' : b = d) : Ending.returned (.tuple #[.bool a, .bool b]) = .returned (.tuple #[.bool c, .bool d]) := by rw [h, h']

def tab : List Int := [1, 2, 3, 4, 0, 3, 4, 1, 2, 0]
def mirrored (e : Int) : Int := if e = 1 then 3 else if e = 3 then 1 else if e = 4 then 2 else if e = 2 then 4 else e
def mayB (s : Int) : Bool := decide (0 ≤ s ∧ s ≤ 9)
def want (s : Int) : Int := if s = 0 ∨ s = 7 then 1 else if s = 1 ∨ s = 8 then 2 else if s = 2 ∨ s = 5 then 3 else if s = 3 ∨ s = 6 then 4 else 0
def next (s : Int) (own : Bool) (e : Int) : Int := if 0 < want s ∧ (if own then e else mirrored e) = want s then s + 1 else s
def theirs (s : Int) (own : Bool) : Bool := if own then decide (0 < s ∧ s < 8) else decide (3 ≤ s ∧ s ≤ 5)
def late (s : Int) : Bool := decide (7 < s ∧ s ≤ 9)
def early (s : Int) : Bool := decide (5 < s ∧ s ≤ 9)

theorem tab_want (n : Nat) (h : n ≤ 9) : tab[n]?.getD 0 = want n := by
  have : ∀ k : Nat, k < 10 → tab[k]?.getD 0 = want (k : Int) := by decide
  exact this n (by omega)
theorem want_out (s : Int) (h : mayB s = false) : want s = 0 := by
  have h1 : ¬ (0 ≤ s ∧ s ≤ 9) := by simpa [mayB] using h
  unfold want
  rw [if_neg (by omega), if_neg (by omega), if_neg (by omega), if_neg (by omega)]
theorem want_range (s : Int) : 0 ≤ want s ∧ want s ≤ 4 := by
  unfold want
  split
  · omega
  split
  · omega
  split
  · omega
  split <;> omega
theorem turn_mirrored (e k : Int) (h0 : 0 < k) (h4 : k ≤ 4) : e = (k + 1) % 4 + 1 ↔ mirrored e = k := by
  unfold mirrored
  split
  · omega
  split
  · omega
  split
  · omega
  split <;> omega

theorem mirrored_any (e : Int) (w : World) :
    Calls Tryd.prog 20 #[.int .i64 e] w fun r w' => r = .returned (.int .i64 (mirrored e)) ∧ w = w' := by
  go_enter Tryd.func20, Tryd.ntmps20
  go_wp2
  all_goals go_ret
  all_goals (refine ⟨?_, rfl⟩)
  all_goals (simp_all [mirrored])

theorem may_any (s : Int) (w : World) :
    Calls Tryd.prog 11 #[.int .i64 s] w fun r w' => r = .returned (.bool (mayB s)) ∧ w = w' := by
  go_enter Tryd.func11, Tryd.ntmps11
  go_wp2
  all_goals go_ret
  all_goals (refine ⟨?_, rfl⟩)
  · have h : 0 ≤ s := by assumption
    simp [mayB, h]
  · have h : s < 0 := by assumption
    have : ¬ (0 ≤ s) := by omega
    simp [mayB, this]

theorem next_out (s : Int) (own : Bool) (e : Int) (w : World) (h : mayB s = false) :
    Calls Tryd.prog 10 #[.int .i64 s, .bool own, .int .i64 e] w fun r w' => r = .returned (.int .i64 s) ∧ w = w' := by
  cases own
  all_goals
    go_enter Tryd.func10, Tryd.ntmps10
    go_wp2_with (first | (go_at_call 20; refine (mirrored_any _ _).mono ?_; rintro e w' ⟨rfl, rfl⟩) | (go_at_call 11; refine (may_any _ _).mono ?_; rintro e w' ⟨rfl, rfl⟩))
    go_ret
    exact ⟨rfl, rfl⟩

theorem next_close (n : Nat) (own : Bool) (e m : Int) (hn : n ≤ 9) (hm : m = if own then e else mirrored e) :
    (∀ _ : 0 < m, ∀ _ : (tab[n]?.getD 0 == m) = true, next n own e = n + 1) ∧ (∀ _ : 0 < m, ∀ _ : (tab[n]?.getD 0 == m) = false, next n own e = n) ∧ (∀ _ : m ≤ 0, next n own e = n) := by
  have hr := want_range n
  rw [tab_want n hn]
  unfold next
  rw [← hm]
  refine ⟨fun h0 h => ?_, fun h0 h => ?_, fun h0 => ?_⟩
  · have : want n = m := by simpa using h
    rw [if_pos (by omega)]
  · have : want n ≠ m := by simpa using h
    rw [if_neg (by omega)]
  · rw [if_neg (by omega)]

theorem next_in (n : Nat) (own : Bool) (e : Int) (w : World) (h : mayB n = true) (hn : n ≤ 9) (hc : w.cell? ⟨0, n, none⟩ = some (.int .i64 (tab.getD n 0))) :
    Calls Tryd.prog 10 #[.int .i64 n, .bool own, .int .i64 e] w fun r w' => r = .returned (.int .i64 (next n own e)) ∧ w = w' := by
  cases own
  · have HC := Lib.hid (next_close n false e (mirrored e) hn (by simp))
    go_enter Tryd.func10, Tryd.ntmps10
    go_wp2_with (first | (go_at_call 20; refine (mirrored_any _ _).mono ?_; rintro e w' ⟨rfl, rfl⟩) | (go_at_call 11; refine (may_any _ _).mono ?_; rintro e w' ⟨rfl, rfl⟩))
    all_goals go_ret
    · exact ⟨ret_int (HC.out.1 ‹_› ‹_›).symm, rfl⟩
    · exact ⟨ret_int (HC.out.2.1 ‹_› ‹_›).symm, rfl⟩
    · exact ⟨ret_int (HC.out.2.2 ‹_›).symm, rfl⟩
  · have HC := Lib.hid (next_close n true e (e) hn (by simp))
    go_enter Tryd.func10, Tryd.ntmps10
    go_wp2_with (first | (go_at_call 20; refine (mirrored_any _ _).mono ?_; rintro e w' ⟨rfl, rfl⟩) | (go_at_call 11; refine (may_any _ _).mono ?_; rintro e w' ⟨rfl, rfl⟩))
    all_goals go_ret
    · exact ⟨ret_int (HC.out.1 ‹_› ‹_›).symm, rfl⟩
    · exact ⟨ret_int (HC.out.2.1 ‹_› ‹_›).symm, rfl⟩
    · exact ⟨ret_int (HC.out.2.2 ‹_›).symm, rfl⟩

/-- THE TABLE's CELLS. -/
def Tab (w : World) : Prop := ∀ i, i ≤ 9 → w.cell? ⟨0, i, none⟩ = some (.int .i64 (tab.getD i 0))

theorem next_any (s : Int) (own : Bool) (e : Int) (w : World) (hT : Tab w) :
    Calls Tryd.prog 10 #[.int .i64 s, .bool own, .int .i64 e] w fun r w' => r = .returned (.int .i64 (next s own e)) ∧ w = w' := by
  cases hm : mayB s with
  | false =>
    refine (next_out s own e w hm).mono ?_
    rintro r w' ⟨rfl, rfl⟩
    refine ⟨?_, rfl⟩
    have := want_out s hm
    unfold next
    rw [if_neg (by omega)]
  | true =>
    have h1 : 0 ≤ s ∧ s ≤ 9 := by simpa [mayB] using hm
    obtain ⟨n, rfl⟩ := Int.eq_ofNat_of_zero_le h1.1
    exact next_in n own e w hm (by omega) (hT n (by omega))


theorem theirs_any (s : Int) (own : Bool) (w : World) :
    Calls Tryd.prog 17 #[.int .i64 s, .bool own] w fun r w' => r = .returned (.bool (theirs s own)) ∧ w = w' := by
  cases own
  all_goals
    go_enter Tryd.func17, Tryd.ntmps17
    go_wp2
    all_goals go_ret
    all_goals refine ⟨ret_bool ?_, rfl⟩
    all_goals (simp [theirs]; omega)

theorem ours_any (s : Int) (own : Bool) (w : World) :
    Calls Tryd.prog 12 #[.int .i64 s, .bool own] w fun r w' => r = .returned (.bool (theirs s !own)) ∧ w = w' := by
  go_enter Tryd.func12, Tryd.ntmps12
  go_wp2_with (go_at_call 17; refine (theirs_any _ _ _).mono ?_; rintro e w' ⟨rfl, rfl⟩)
  go_ret
  exact ⟨rfl, rfl⟩

def setO (s : Int) (own : Bool) : Bool := if own then early s else late s
def setT (s : Int) (own : Bool) : Bool := if own then late s else early s

theorem settled_any (s : Int) (own : Bool) (w : World) :
    Calls Tryd.prog 13 #[.int .i64 s, .bool own] w fun r w' => r = .returned (.tuple #[.bool (setO s own), .bool (setT s own)]) ∧ w = w' := by
  cases own
  all_goals
    go_enter Tryd.func13, Tryd.ntmps13
    go_wp2_with (go_at_call 11; refine (may_any _ _).mono ?_; rintro e w' ⟨rfl, rfl⟩)
    all_goals go_ret2
    all_goals refine ⟨ret_bools ?_ ?_, rfl⟩
    all_goals (rw [Bool.eq_iff_iff]; simp [setO, setT, early, late, mayB]; try omega)

theorem between_any (n a b : Int) (w : World) :
    Calls Tryd.prog 21 #[.int .i64 n, .int .i64 a, .int .i64 b] w fun r w' => r = .returned (.bool (decide (a ≤ n ∧ n ≤ b))) ∧ w = w' := by
  go_enter Tryd.func21, Tryd.ntmps21
  go_wp2
  all_goals go_ret
  all_goals refine ⟨ret_bool ?_, rfl⟩
  all_goals (simp; omega)

theorem refmay_any (s : Int) (w : World) :
    Calls Tryd.prog 19 #[.int .i64 s] w fun r w' => r = .returned (.bool (mayB s)) ∧ w = w' := by
  go_enter Tryd.func19, Tryd.ntmps19
  go_wp2_with (go_at_call 21; refine (between_any _ _ _ _).mono ?_; rintro e w' ⟨rfl, rfl⟩)
  go_ret
  refine ⟨ret_bool ?_, rfl⟩
  rw [Bool.eq_iff_iff]; simp [mayB]

theorem refours_any (s : Int) (own : Bool) (w : World) :
    Calls Tryd.prog 16 #[.int .i64 s, .bool own] w fun r w' => r = .returned (.bool (theirs s !own)) ∧ w = w' := by
  cases own
  all_goals
    go_enter Tryd.func16, Tryd.ntmps16
    go_wp2_with (go_at_call 21; refine (between_any _ _ _ _).mono ?_; rintro e w' ⟨rfl, rfl⟩)
    go_ret
    refine ⟨ret_bool ?_, rfl⟩
    rw [Bool.eq_iff_iff]; simp [theirs]; try omega

theorem reftheirs_any (s : Int) (own : Bool) (w : World) :
    Calls Tryd.prog 18 #[.int .i64 s, .bool own] w fun r w' => r = .returned (.bool (theirs s own)) ∧ w = w' := by
  cases own
  all_goals
    go_enter Tryd.func18, Tryd.ntmps18
    go_wp2_with (go_at_call 21; refine (between_any _ _ _ _).mono ?_; rintro e w' ⟨rfl, rfl⟩)
    go_ret
    refine ⟨ret_bool ?_, rfl⟩
    rw [Bool.eq_iff_iff]; simp [theirs]; try omega

theorem refsettled_any (s : Int) (own : Bool) (w : World) :
    Calls Tryd.prog 14 #[.int .i64 s, .bool own] w fun r w' => r = .returned (.tuple #[.bool (setO s own), .bool (setT s own)]) ∧ w = w' := by
  cases own
  all_goals
    go_enter Tryd.func14, Tryd.ntmps14
    go_wp2_with (go_at_call 21; refine (between_any _ _ _ _).mono ?_; rintro e w' ⟨rfl, rfl⟩)
    all_goals go_ret2
    all_goals refine ⟨ret_bools ?_ ?_, rfl⟩
    all_goals (rw [Bool.eq_iff_iff]; simp [setO, setT, early, late]; try omega)

theorem refnext_any (s : Int) (own : Bool) (e : Int) (w : World) :
    Calls Tryd.prog 15 #[.int .i64 s, .bool own, .int .i64 e] w fun r w' => r = .returned (.int .i64 (next s own e)) ∧ w = w' := by
  cases own
  all_goals
    go_enter Tryd.func15, Tryd.ntmps15
    go_wp2
    all_goals go_ret
    all_goals refine ⟨ret_int ?_, rfl⟩
    all_goals simp_all [next, want, mirrored]
    all_goals first | (unfold wrap64; omega) | omega
end Go.Proofs.YtcgigoidmnpijaaDoor.Htlc
