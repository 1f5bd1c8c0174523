/- Can, and the statement on it. -/
import Derived.Test.YtifnflldceeaaaaDoorSecret0
import Derived.Test.YtifnflldceeaaaaDoorStC
set_option linter.unusedSimpArgs false
set_option linter.unusedVariables false
namespace Go.Proofs.YtifnflldceeaaaaDoor.Secret
open Go Go.RowKit Go.Proofs.YtifnflldceeaaaaDoor.Mem Go.Proofs.YtifnflldceeaaaaDoor.St

def can (i j : Nat) : Bool := i / 2 ^ place i == j / 2 ^ place i
set_option maxHeartbeats 8000000 in
theorem can_yes (i j : Nat) (hi : i < 65536) (hj : j < 65536) (w : World) (hT : TabW w) :
    Calls Tryd.prog 9 #[.int .i64 (i : Int), .int .i64 (j : Int)] w fun r w' => r = .returned (.bool (can i j)) ∧ OnlyNew w w' := by
  refine calls_of_wp Tryd.func9 rfl ?_
  refine St.ent0 (⟨#[.int .i64 (i : Int), .int .i64 (j : Int), undef, undef, undef, undef, undef, undef, undef, undef, undef, undef, undef, undef, undef, undef, undef, undef, undef, undef, undef, undef], []⟩) (by kernel_rfl) ?_
  have HS1 : St w w [] [] := St.nil _ _
  have hp := place_le i hi
  refine wp_seq ?_
  refine St.rgn ?_
  refine St.sv (.bool false) rfl (by kernel_rfl) ?_
  refine St.fin (⟨#[.int .i64 (i : Int), .int .i64 (j : Int), undef, undef, .bool false, undef, undef, undef, undef, undef, undef, undef, undef, undef, undef, undef, undef, undef, undef, undef, undef, undef], []⟩) (by kernel_rfl) ?_
  refine St.then_n ?_
  refine wp_seq ?_
  refine Lin2.region_lin [0, 1, 3, 7, 15, 31, 63, 127, 127, 383, 1023, 127, 127, 4991, 15231, 32767, 65535, 131071] [] [] (fun _ => True) (St.StK w [] [[(.big w.heap.size)]]) St.StK.quiet 22 (by kernel_rfl) rfl (by kernel_rfl) HS1.big.drew ?_
  refine Lin2.walk_pure (.int .i64 (i : Int)) (by kernel_rfl) (by kernel_rfl) (by kernel_rfl) (fun w1 => (by kernel_rfl)) ?_; intro S' hS'; subst hS'
  refine St.walk_callS [] (.bool true) 0 0 (by kernel_rfl) (by kernel_rfl) (by kernel_rfl) (by kernel_rfl) (fun _ => by kernel_rfl) (by intro f w1 k1 hF _ h1 h2 hI; obtain rfl : k1 = 0 := (by omega); have HS : St w w1 [] [(.big w.heap.size)] := hI; refine St.g_call (by kernel_rfl) (Secret.number_yes i (by first | omega | (simp; omega) | simp) w1) ?_; rintro _ w4 ⟨rfl, rfl⟩; exact ⟨_, rfl, rfl, Chgd.refl _ _⟩) ?_; intro S' hS'; subst hS'
  refine Lin2.walk_pure (.bool true) (by kernel_rfl) (by kernel_rfl) (by kernel_rfl) (fun w1 => (by kernel_rfl)) ?_; intro S' hS'; subst hS'
  refine Lin2.walk_pure (.int .i64 (j : Int)) (by kernel_rfl) (by kernel_rfl) (by kernel_rfl) (fun w1 => (by kernel_rfl)) ?_; intro S' hS'; subst hS'
  refine St.walk_callS [] (.bool true) 0 0 (by kernel_rfl) (by kernel_rfl) (by kernel_rfl) (by kernel_rfl) (fun _ => by kernel_rfl) (by intro f w1 k1 hF _ h1 h2 hI; obtain rfl : k1 = 0 := (by omega); have HS : St w w1 [] [(.big w.heap.size)] := hI; refine St.g_call (by kernel_rfl) (Secret.number_yes j (by first | omega | (simp; omega) | simp) w1) ?_; rintro _ w5 ⟨rfl, rfl⟩; exact ⟨_, rfl, rfl, Chgd.refl _ _⟩) ?_; intro S' hS'; subst hS'
  refine Lin2.walk_pure (.bool true) (by kernel_rfl) (by kernel_rfl) (by kernel_rfl) (fun w1 => (by kernel_rfl)) ?_; intro S' hS'; subst hS'
  refine Lin2.walk_pure (.bool true) (by kernel_rfl) (by kernel_rfl) (by kernel_rfl) (fun w1 => (by kernel_rfl)) ?_; intro S' hS'; subst hS'
  refine Lin2.walk_pure (.int .i64 (i : Int)) (by kernel_rfl) (by kernel_rfl) (by kernel_rfl) (fun w1 => (by kernel_rfl)) ?_; intro S' hS'; subst hS'
  refine Lin2.walk_pure (.int .i64 (i : Int)) (by kernel_rfl) (by kernel_rfl) (by kernel_rfl) (fun w1 => (by kernel_rfl)) ?_; intro S' hS'; subst hS'
  refine St.walk_callS [] (.int .i64 ((place i : Nat) : Int)) 0 0 (by kernel_rfl) (by kernel_rfl) (by kernel_rfl) (by kernel_rfl) (fun _ => by kernel_rfl) (by intro f w1 k1 hF _ h1 h2 hI; obtain rfl : k1 = 0 := (by omega); have HS : St w w1 [] [(.big w.heap.size)] := hI; refine St.g_call (by kernel_rfl) (Secret.place_any i (by first | omega | (simp; omega) | simp) w1 (hT.keep HS.chg (by simp))) ?_; rintro _ w6 ⟨rfl, rfl⟩; exact ⟨_, rfl, rfl, Chgd.refl _ _⟩) ?_; intro S' hS'; subst hS'
  refine Lin2.walk_pure (.int .i64 ((i / 2 ^ (place i) : Nat) : Int)) (by kernel_rfl) (by kernel_rfl) (by kernel_rfl) (fun w1 => (St.e_shr (k' := .i64) (a := ((i : Nat) : Int)) (b := ((place i : Nat) : Int)) rfl (by kernel_rfl) (by kernel_rfl) (by omega) (St.shr_any _ _ (by first | omega | (simp; omega) | simp)))) ?_; intro S' hS'; subst hS'
  refine Lin2.walk_pure (.int .i64 (j : Int)) (by kernel_rfl) (by kernel_rfl) (by kernel_rfl) (fun w1 => (by kernel_rfl)) ?_; intro S' hS'; subst hS'
  refine Lin2.walk_pure (.int .i64 (i : Int)) (by kernel_rfl) (by kernel_rfl) (by kernel_rfl) (fun w1 => (by kernel_rfl)) ?_; intro S' hS'; subst hS'
  refine St.walk_callS [] (.int .i64 ((place i : Nat) : Int)) 0 0 (by kernel_rfl) (by kernel_rfl) (by kernel_rfl) (by kernel_rfl) (fun _ => by kernel_rfl) (by intro f w1 k1 hF _ h1 h2 hI; obtain rfl : k1 = 0 := (by omega); have HS : St w w1 [] [(.big w.heap.size)] := hI; refine St.g_call (by kernel_rfl) (Secret.place_any i (by first | omega | (simp; omega) | simp) w1 (hT.keep HS.chg (by simp))) ?_; rintro _ w7 ⟨rfl, rfl⟩; exact ⟨_, rfl, rfl, Chgd.refl _ _⟩) ?_; intro S' hS'; subst hS'
  refine Lin2.walk_pure (.int .i64 ((j / 2 ^ (place i) : Nat) : Int)) (by kernel_rfl) (by kernel_rfl) (by kernel_rfl) (fun w1 => (St.e_shr (k' := .i64) (a := ((j : Nat) : Int)) (b := ((place i : Nat) : Int)) rfl (by kernel_rfl) (by kernel_rfl) (by omega) (St.shr_any _ _ (by first | omega | (simp; omega) | simp)))) ?_; intro S' hS'; subst hS'
  refine Lin2.walk_pure (.bool (((i / 2 ^ (place i) : Nat) : Int) == ((j / 2 ^ (place i) : Nat) : Int))) (by kernel_rfl) (by kernel_rfl) (by kernel_rfl) (fun w1 => (by kernel_rfl)) ?_; intro S' hS'; subst hS'
  refine Lin2.walk_pure (.bool (((i / 2 ^ (place i) : Nat) : Int) == ((j / 2 ^ (place i) : Nat) : Int))) (by kernel_rfl) (by kernel_rfl) (by kernel_rfl) (fun w1 => (by kernel_rfl)) ?_; intro S' hS'; subst hS'
  refine Lin2.walk_pure (.bool (((i / 2 ^ (place i) : Nat) : Int) == ((j / 2 ^ (place i) : Nat) : Int))) (by kernel_rfl) (by kernel_rfl) (by kernel_rfl) (fun w1 => (by kernel_rfl)) ?_; intro S' hS'; subst hS'
  refine Lin2.walk_end0 rfl ?_; intro w8 _ hI
  have HS9 : St w w8 [] [] := St.unbig (e := .big w.heap.size) hI; clear hI HS1
  refine St.finQ (⟨#[.int .i64 (i : Int), .int .i64 (j : Int), undef, undef, .bool (((i / 2 ^ (place i) : Nat) : Int) == ((j / 2 ^ (place i) : Nat) : Int)), .int .i64 (i : Int), .bool true, .bool true, .int .i64 (j : Int), .bool true, .bool true, .bool true, .int .i64 (i : Int), .int .i64 (i : Int), .int .i64 ((place i : Nat) : Int), .int .i64 ((i / 2 ^ (place i) : Nat) : Int), .int .i64 (j : Int), .int .i64 (i : Int), .int .i64 ((place i : Nat) : Int), .int .i64 ((j / 2 ^ (place i) : Nat) : Int), .bool (((i / 2 ^ (place i) : Nat) : Int) == ((j / 2 ^ (place i) : Nat) : Int)), .bool (((i / 2 ^ (place i) : Nat) : Int) == ((j / 2 ^ (place i) : Nat) : Int))], []⟩) (by kernel_rfl) ?_
  refine St.then_n ?_
  refine wp_ret ?_
  refine bodyPost_ret (v := .bool (((i / 2 ^ (place i) : Nat) : Int) == ((j / 2 ^ (place i) : Nat) : Int))) (by kernel_rfl) rfl ?_
  -- end 0: []
  exact ⟨ret_bool (St.eq_nats _ _), HS9.only⟩
set_option maxHeartbeats 8000000 in
theorem can_no (i j : Int) (h : (i < 0 ∨ 65536 ≤ i) ∨ (0 ≤ i ∧ i < 65536) ∧ (j < 0 ∨ 65536 ≤ j)) (w : World) :
    Calls Tryd.prog 9 #[.int .i64 i, .int .i64 j] w fun r w' => r = .returned (.bool false) ∧ OnlyNew w w' := by
  rcases h with h | ⟨h1, h2⟩
  · skip
    refine calls_of_wp Tryd.func9 rfl ?_
    refine St.ent0 (⟨#[.int .i64 (i : Int), .int .i64 (j : Int), undef, undef, undef, undef, undef, undef, undef, undef, undef, undef, undef, undef, undef, undef, undef, undef, undef, undef, undef, undef], []⟩) (by kernel_rfl) ?_
    have HS1 : St w w [] [] := St.nil _ _
    refine wp_seq ?_
    refine St.rgn ?_
    refine St.sv (.bool false) rfl (by kernel_rfl) ?_
    refine St.fin (⟨#[.int .i64 (i : Int), .int .i64 (j : Int), undef, undef, .bool false, undef, undef, undef, undef, undef, undef, undef, undef, undef, undef, undef, undef, undef, undef, undef, undef, undef], []⟩) (by kernel_rfl) ?_
    refine St.then_n ?_
    refine wp_seq ?_
    refine Lin2.region_lin [0, 1, 3, 7, 15, 31, 63, 127, 127, 383, 1023, 127, 127, 4991, 15231, 32767, 65535, 131071] [] [] (fun _ => True) (St.StK w [] [[(.big w.heap.size)]]) St.StK.quiet 22 (by kernel_rfl) rfl (by kernel_rfl) HS1.big.drew ?_
    refine Lin2.walk_pure (.int .i64 (i : Int)) (by kernel_rfl) (by kernel_rfl) (by kernel_rfl) (fun w1 => (by kernel_rfl)) ?_; intro S' hS'; subst hS'
    refine St.walk_callS [] (.bool false) 0 0 (by kernel_rfl) (by kernel_rfl) (by kernel_rfl) (by kernel_rfl) (fun _ => by kernel_rfl) (by intro f w1 k1 hF _ h1 h2 hI; obtain rfl : k1 = 0 := (by omega); have HS : St w w1 [] [(.big w.heap.size)] := hI; refine St.g_call (by kernel_rfl) (Secret.number_no i (by first | omega | (simp; omega) | simp) w1) ?_; rintro _ w4 ⟨rfl, rfl⟩; exact ⟨_, rfl, rfl, Chgd.refl _ _⟩) ?_; intro S' hS'; subst hS'
    refine Lin2.walk_pure (.bool false) (by kernel_rfl) (by kernel_rfl) (by kernel_rfl) (fun w1 => (by kernel_rfl)) ?_; intro S' hS'; subst hS'
    refine Lin2.walk_skip (by kernel_rfl) (by kernel_rfl) (by kernel_rfl) ?_; intro S' hS'; subst hS'
    refine Lin2.walk_skip (by kernel_rfl) (by kernel_rfl) (by kernel_rfl) ?_; intro S' hS'; subst hS'
    refine Lin2.walk_pure (.bool false) (by kernel_rfl) (by kernel_rfl) (by kernel_rfl) (fun w1 => (by kernel_rfl)) ?_; intro S' hS'; subst hS'
    refine Lin2.walk_pure (.bool false) (by kernel_rfl) (by kernel_rfl) (by kernel_rfl) (fun w1 => (by kernel_rfl)) ?_; intro S' hS'; subst hS'
    refine Lin2.walk_skip (by kernel_rfl) (by kernel_rfl) (by kernel_rfl) ?_; intro S' hS'; subst hS'
    refine Lin2.walk_skip (by kernel_rfl) (by kernel_rfl) (by kernel_rfl) ?_; intro S' hS'; subst hS'
    refine Lin2.walk_skip (by kernel_rfl) (by kernel_rfl) (by kernel_rfl) ?_; intro S' hS'; subst hS'
    refine Lin2.walk_skip (by kernel_rfl) (by kernel_rfl) (by kernel_rfl) ?_; intro S' hS'; subst hS'
    refine Lin2.walk_skip (by kernel_rfl) (by kernel_rfl) (by kernel_rfl) ?_; intro S' hS'; subst hS'
    refine Lin2.walk_skip (by kernel_rfl) (by kernel_rfl) (by kernel_rfl) ?_; intro S' hS'; subst hS'
    refine Lin2.walk_skip (by kernel_rfl) (by kernel_rfl) (by kernel_rfl) ?_; intro S' hS'; subst hS'
    refine Lin2.walk_skip (by kernel_rfl) (by kernel_rfl) (by kernel_rfl) ?_; intro S' hS'; subst hS'
    refine Lin2.walk_skip (by kernel_rfl) (by kernel_rfl) (by kernel_rfl) ?_; intro S' hS'; subst hS'
    refine Lin2.walk_pure (.bool false) (by kernel_rfl) (by kernel_rfl) (by kernel_rfl) (fun w1 => (by kernel_rfl)) ?_; intro S' hS'; subst hS'
    refine Lin2.walk_pure (.bool false) (by kernel_rfl) (by kernel_rfl) (by kernel_rfl) (fun w1 => (by kernel_rfl)) ?_; intro S' hS'; subst hS'
    refine Lin2.walk_end0 rfl ?_; intro w5 _ hI
    have HS6 : St w w5 [] [] := St.unbig (e := .big w.heap.size) hI; clear hI HS1
    refine St.finQ (⟨#[.int .i64 (i : Int), .int .i64 (j : Int), undef, undef, .bool false, .int .i64 (i : Int), .bool false, .bool false, undef, undef, .bool false, .bool false, undef, undef, undef, undef, undef, undef, undef, undef, undef, .bool false], []⟩) (by kernel_rfl) ?_
    refine St.then_n ?_
    refine wp_ret ?_
    refine bodyPost_ret (v := .bool false) (by kernel_rfl) rfl ?_
    -- end 0: []
    exact ⟨rfl, HS6.only⟩
  · obtain ⟨n, rfl⟩ : ∃ n : Nat, i = (n : Int) := ⟨i.toNat, by omega⟩
    have hn : n < 65536 := by omega
    refine calls_of_wp Tryd.func9 rfl ?_
    refine St.ent0 (⟨#[.int .i64 (n : Int), .int .i64 (j : Int), undef, undef, undef, undef, undef, undef, undef, undef, undef, undef, undef, undef, undef, undef, undef, undef, undef, undef, undef, undef], []⟩) (by kernel_rfl) ?_
    have HS1 : St w w [] [] := St.nil _ _
    refine wp_seq ?_
    refine St.rgn ?_
    refine St.sv (.bool false) rfl (by kernel_rfl) ?_
    refine St.fin (⟨#[.int .i64 (n : Int), .int .i64 (j : Int), undef, undef, .bool false, undef, undef, undef, undef, undef, undef, undef, undef, undef, undef, undef, undef, undef, undef, undef, undef, undef], []⟩) (by kernel_rfl) ?_
    refine St.then_n ?_
    refine wp_seq ?_
    refine Lin2.region_lin [0, 1, 3, 7, 15, 31, 63, 127, 127, 383, 1023, 127, 127, 4991, 15231, 32767, 65535, 131071] [] [] (fun _ => True) (St.StK w [] [[(.big w.heap.size)]]) St.StK.quiet 22 (by kernel_rfl) rfl (by kernel_rfl) HS1.big.drew ?_
    refine Lin2.walk_pure (.int .i64 (n : Int)) (by kernel_rfl) (by kernel_rfl) (by kernel_rfl) (fun w1 => (by kernel_rfl)) ?_; intro S' hS'; subst hS'
    refine St.walk_callS [] (.bool true) 0 0 (by kernel_rfl) (by kernel_rfl) (by kernel_rfl) (by kernel_rfl) (fun _ => by kernel_rfl) (by intro f w1 k1 hF _ h1 h2 hI; obtain rfl : k1 = 0 := (by omega); have HS : St w w1 [] [(.big w.heap.size)] := hI; refine St.g_call (by kernel_rfl) (Secret.number_yes n (by first | omega | (simp; omega) | simp) w1) ?_; rintro _ w4 ⟨rfl, rfl⟩; exact ⟨_, rfl, rfl, Chgd.refl _ _⟩) ?_; intro S' hS'; subst hS'
    refine Lin2.walk_pure (.bool true) (by kernel_rfl) (by kernel_rfl) (by kernel_rfl) (fun w1 => (by kernel_rfl)) ?_; intro S' hS'; subst hS'
    refine Lin2.walk_pure (.int .i64 (j : Int)) (by kernel_rfl) (by kernel_rfl) (by kernel_rfl) (fun w1 => (by kernel_rfl)) ?_; intro S' hS'; subst hS'
    refine St.walk_callS [] (.bool false) 0 0 (by kernel_rfl) (by kernel_rfl) (by kernel_rfl) (by kernel_rfl) (fun _ => by kernel_rfl) (by intro f w1 k1 hF _ h1 h2 hI; obtain rfl : k1 = 0 := (by omega); have HS : St w w1 [] [(.big w.heap.size)] := hI; refine St.g_call (by kernel_rfl) (Secret.number_no j (by first | omega | (simp; omega) | simp) w1) ?_; rintro _ w5 ⟨rfl, rfl⟩; exact ⟨_, rfl, rfl, Chgd.refl _ _⟩) ?_; intro S' hS'; subst hS'
    refine Lin2.walk_pure (.bool false) (by kernel_rfl) (by kernel_rfl) (by kernel_rfl) (fun w1 => (by kernel_rfl)) ?_; intro S' hS'; subst hS'
    refine Lin2.walk_pure (.bool false) (by kernel_rfl) (by kernel_rfl) (by kernel_rfl) (fun w1 => (by kernel_rfl)) ?_; intro S' hS'; subst hS'
    refine Lin2.walk_skip (by kernel_rfl) (by kernel_rfl) (by kernel_rfl) ?_; intro S' hS'; subst hS'
    refine Lin2.walk_skip (by kernel_rfl) (by kernel_rfl) (by kernel_rfl) ?_; intro S' hS'; subst hS'
    refine Lin2.walk_skip (by kernel_rfl) (by kernel_rfl) (by kernel_rfl) ?_; intro S' hS'; subst hS'
    refine Lin2.walk_skip (by kernel_rfl) (by kernel_rfl) (by kernel_rfl) ?_; intro S' hS'; subst hS'
    refine Lin2.walk_skip (by kernel_rfl) (by kernel_rfl) (by kernel_rfl) ?_; intro S' hS'; subst hS'
    refine Lin2.walk_skip (by kernel_rfl) (by kernel_rfl) (by kernel_rfl) ?_; intro S' hS'; subst hS'
    refine Lin2.walk_skip (by kernel_rfl) (by kernel_rfl) (by kernel_rfl) ?_; intro S' hS'; subst hS'
    refine Lin2.walk_skip (by kernel_rfl) (by kernel_rfl) (by kernel_rfl) ?_; intro S' hS'; subst hS'
    refine Lin2.walk_skip (by kernel_rfl) (by kernel_rfl) (by kernel_rfl) ?_; intro S' hS'; subst hS'
    refine Lin2.walk_pure (.bool false) (by kernel_rfl) (by kernel_rfl) (by kernel_rfl) (fun w1 => (by kernel_rfl)) ?_; intro S' hS'; subst hS'
    refine Lin2.walk_pure (.bool false) (by kernel_rfl) (by kernel_rfl) (by kernel_rfl) (fun w1 => (by kernel_rfl)) ?_; intro S' hS'; subst hS'
    refine Lin2.walk_end0 rfl ?_; intro w6 _ hI
    have HS7 : St w w6 [] [] := St.unbig (e := .big w.heap.size) hI; clear hI HS1
    refine St.finQ (⟨#[.int .i64 (n : Int), .int .i64 (j : Int), undef, undef, .bool false, .int .i64 (n : Int), .bool true, .bool true, .int .i64 (j : Int), .bool false, .bool false, .bool false, undef, undef, undef, undef, undef, undef, undef, undef, undef, .bool false], []⟩) (by kernel_rfl) ?_
    refine St.then_n ?_
    refine wp_ret ?_
    refine bodyPost_ret (v := .bool false) (by kernel_rfl) rfl ?_
    -- end 0: []
    exact ⟨rfl, HS7.only⟩
theorem can_refl (i : Nat) : can i i = true := beq_self_eq_true _
theorem can_zero (i : Nat) (h : i < 65536) : can 0 i = true := by
  have : place 0 = 16 := by decide +kernel
  unfold can
  rw [this]
  simp; omega
theorem can_above (i j : Nat) (hi : i < 65536) (h1 : i ≤ j) (h2 : j < i + 2 ^ place i) : can i j = true := by
  obtain ⟨m, hm⟩ := place_dvd' i hi
  have hp := Nat.two_pow_pos (place i)
  unfold can
  generalize 2 ^ place i = p at *
  rw [beq_iff_eq, hm, Nat.mul_div_cancel_left _ hp]
  have e : j = p * m + (j - p * m) := by omega
  rw [e, Nat.mul_add_div hp, Nat.div_eq_of_lt (by omega)]
  rfl
theorem can_out (i j : Nat) (hi : i < 65536) (h : ¬ (i ≤ j ∧ j < i + 2 ^ place i)) : can i j = false := by
  obtain ⟨m, hm⟩ := place_dvd' i hi
  have hp := Nat.two_pow_pos (place i)
  unfold can
  generalize 2 ^ place i = p at *
  rw [beq_eq_false_iff_ne, hm, Nat.mul_div_cancel_left _ hp]
  intro e
  apply h
  have h1 := Nat.div_add_mod j p
  have h2 := Nat.mod_lt j hp
  rw [← e] at h1
  omega
theorem place_ge (i k : Nat) (hi : i < 65536) (h : k ≤ 16) (hd : 2 ^ k ∣ i) : k ≤ place i := by
  obtain ⟨_, h2⟩ := place_dvd i hi
  refine h2 k ((Nat.dvd_add_right hd).2 ?_)
  exact Nat.pow_dvd_pow 2 h
theorem can_place (i j : Nat) (hi : i < 65536) (hj : j < 65536) (h : can i j = true) : i = j ∨ place j ≤ place i := by
  by_cases hle : place j ≤ place i
  · exact .inr hle
  · refine .inl ?_
    have hp := place_le j hj
    have hd : 2 ^ place i ∣ j := Nat.dvd_trans (Nat.pow_dvd_pow 2 (by omega)) (place_dvd' j hj)
    obtain ⟨m, hm⟩ := place_dvd' i hi
    obtain ⟨k, hk⟩ := hd
    have h2 := Nat.two_pow_pos (place i)
    unfold can at h
    rw [beq_iff_eq] at h
    generalize 2 ^ place i = p at *
    have e1 : i / p = m := by rw [hm, Nat.mul_div_cancel_left _ h2]
    have e2 : j / p = k := by rw [hk, Nat.mul_div_cancel_left _ h2]
    rw [e1, e2] at h
    rw [hm, hk, h]
theorem can_trans (i j k : Nat) (hi : i < 65536) (hj : j < 65536) (hk : k < 65536) (h1 : can i j = true) (h2 : can j k = true) : can i k = true := by
  rcases can_place i j hi hj h1 with rfl | hle
  · exact h2
  · unfold can at *
    rw [beq_iff_eq] at *
    obtain ⟨d, hd⟩ : ∃ d, place i = place j + d := ⟨place i - place j, by omega⟩
    rw [h1, hd, Nat.pow_add, ← Nat.div_div_eq_div_mul, ← Nat.div_div_eq_div_mul, h2]
set_option maxHeartbeats 8000000 in
theorem shown_can (w : World) (hT : TabW w) : Calls Tryd.prog 10 #[] w fun r w' => r = .returned (.bool true) ∧ OnlyNew w w' := by
  refine calls_of_wp Tryd.func10 rfl ?_
  refine St.ent0 (⟨#[undef, undef, undef, undef, undef, undef, undef, undef, undef, undef], []⟩) (by kernel_rfl) ?_
  have HS1 : St w w [] [] := St.nil _ _
  refine wp_seq ?_
  refine St.rgn ?_
  refine St.sv (.bool false) rfl (by kernel_rfl) ?_
  refine St.fin (⟨#[.bool false, undef, undef, undef, undef, undef, undef, undef, undef, undef], []⟩) (by kernel_rfl) ?_
  refine St.then_n ?_
  refine wp_seq ?_
  refine St.rgn ?_
  refine St.scall rfl (by kernel_rfl) (Secret.can_yes 8 11 (by first | omega | (simp; omega) | simp) (by first | omega | (simp; omega) | simp) w (hT.keep HS1.chg (by simp))) ?_
  rintro _ w2 ⟨rfl, h3⟩; refine ⟨.bool true, congrArg (fun b => Ending.returned (.bool b)) (show (can 8 11) = true from (show (can 8 11) = true from (by decide +kernel))), ?_⟩
  have HS4 := HS1.quiet h3
  clear HS1
  refine St.sv (.bool true) rfl (by kernel_rfl) ?_
  refine St.scallq (by kernel_rfl) (by kernel_rfl) (Secret.can_yes 8 16 (by first | omega | (simp; omega) | simp) (by first | omega | (simp; omega) | simp) w2 (hT.keep HS4.chg (by simp))) ?_
  rintro _ w5 ⟨rfl, h6⟩; refine ⟨.bool false, congrArg (fun b => Ending.returned (.bool b)) (show (can 8 16) = false from (show (can 8 16) = false from (by decide +kernel))), ?_⟩
  have HS7 := HS4.quiet h6
  clear HS4
  refine St.svq (.bool true) (by kernel_rfl) (by kernel_rfl) ?_
  refine St.sv (.bool true) rfl (by kernel_rfl) ?_
  refine St.sv (.bool true) rfl (by kernel_rfl) ?_
  refine St.scallq (by kernel_rfl) (by kernel_rfl) (Secret.place_any 8 (by first | omega | (simp; omega) | simp) w5 (hT.keep HS7.chg (by simp))) ?_
  rintro _ w8 ⟨rfl, rfl⟩; refine ⟨_, rfl, ?_⟩
  refine St.svq (.bool true) (by kernel_rfl) (St.vb (by kernel_rfl) (show (((place 8 : Nat) : Int) == 3) = true from (by decide +kernel))) ?_
  refine St.sv (.bool true) rfl (by kernel_rfl) ?_
  refine St.sv (.bool true) rfl (by kernel_rfl) ?_
  refine St.fin (⟨#[.bool true, .bool true, .bool true, .bool false, .bool true, .bool true, .bool true, .int .i64 ((place 8 : Nat) : Int), .bool true, .bool true], []⟩) (by kernel_rfl) ?_
  refine St.then_n ?_
  refine wp_ret ?_
  refine bodyPost_ret (v := .bool true) (by kernel_rfl) rfl ?_
  -- end 0: []
  exact ⟨rfl, HS7.only⟩
set_option maxHeartbeats 8000000 in
theorem can_law (a b c : UInt16) (w : World) (hT : TabW w) : Calls Tryd.prog 3 #[.int .u16 (a.toNat : Int), .int .u16 (b.toNat : Int), .int .u16 (c.toNat : Int)] w fun r w' => r = .returned (.bool true) ∧ OnlyNew w w' := by
  refine calls_of_wp Tryd.func3 rfl ?_
  refine St.ent0 (⟨#[.int .u16 (a.toNat : Int), .int .u16 (b.toNat : Int), .int .u16 (c.toNat : Int), undef, undef, undef, undef, undef, undef, undef, undef, undef, undef, undef, undef, undef, undef, undef, undef, undef, undef, undef, undef, undef, undef, undef, undef, undef, undef, undef, undef, undef, undef, undef, undef, undef, undef, undef, undef, undef, undef, undef, undef, undef, undef, undef, undef, undef, undef, undef, undef, undef, undef, undef, undef, undef, undef, undef, undef, undef, undef, undef, undef, undef, undef], []⟩) (by kernel_rfl) ?_
  have HS1 : St w w [] [] := St.nil _ _
  have ha := a.toNat_lt; have hb := b.toNat_lt; have hc := c.toNat_lt; have hp := place_le a.toNat (by omega); have hq0 : 2 ^ place a.toNat ≤ 65536 := Nat.pow_le_pow_right (by decide) hp; obtain ⟨q, hq⟩ : ∃ q, q = 2 ^ place a.toNat := ⟨_, rfl⟩; have hq1 : q ≤ 65536 := hq ▸ hq0; clear hq0; have hab := can_above a.toNat b.toNat; have hob := can_out a.toNat b.toNat; rw [← hq] at hab hob; have hiff : a.toNat ≤ b.toNat → (can a.toNat b.toNat == decide ((b.toNat : Int) < ((a.toNat + q : Nat) : Int))) = true := (fun h => (by by_cases h2 : b.toNat < a.toNat + q; (rw [hab (by omega) h h2]; simp; omega); (rw [hob (by omega) (by omega)]; simp; omega)))
  refine wp_seq ?_
  refine St.rgn ?_
  refine St.sv (.bool false) rfl (by kernel_rfl) ?_
  refine St.fin (⟨#[.int .u16 (a.toNat : Int), .int .u16 (b.toNat : Int), .int .u16 (c.toNat : Int), undef, undef, undef, .bool false, undef, undef, undef, undef, undef, undef, undef, undef, undef, undef, undef, undef, undef, undef, undef, undef, undef, undef, undef, undef, undef, undef, undef, undef, undef, undef, undef, undef, undef, undef, undef, undef, undef, undef, undef, undef, undef, undef, undef, undef, undef, undef, undef, undef, undef, undef, undef, undef, undef, undef, undef, undef, undef, undef, undef, undef, undef, undef], []⟩) (by kernel_rfl) ?_
  refine St.then_n ?_
  refine wp_seq ?_
  refine St.rgn ?_
  refine St.sv (.int .u16 (a.toNat : Int)) rfl (by kernel_rfl) ?_
  refine St.sv (.int .i64 (a.toNat : Int)) rfl (St.e_conv (k' := .u16) (a := (a.toNat : Int)) rfl Tryd.underlying22 Tryd.underlying3 (by kernel_rfl) (by rw [IntKind.wrap_i64]; have := (a).toNat_lt; omega)) ?_
  refine St.sv (.int .i64 (a.toNat : Int)) rfl (by kernel_rfl) ?_
  refine St.fin (⟨#[.int .u16 (a.toNat : Int), .int .u16 (b.toNat : Int), .int .u16 (c.toNat : Int), undef, undef, undef, .bool false, .int .i64 (a.toNat : Int), undef, undef, undef, undef, .int .u16 (a.toNat : Int), .int .i64 (a.toNat : Int), undef, undef, undef, undef, undef, undef, undef, undef, undef, undef, undef, undef, undef, undef, undef, undef, undef, undef, undef, undef, undef, undef, undef, undef, undef, undef, undef, undef, undef, undef, undef, undef, undef, undef, undef, undef, undef, undef, undef, undef, undef, undef, undef, undef, undef, undef, undef, undef, undef, undef, undef], []⟩) (by kernel_rfl) ?_
  refine St.then_n ?_
  refine wp_seq ?_
  refine St.rgn ?_
  refine St.sv (.int .u16 (b.toNat : Int)) rfl (by kernel_rfl) ?_
  refine St.sv (.int .i64 (b.toNat : Int)) rfl (St.e_conv (k' := .u16) (a := (b.toNat : Int)) rfl Tryd.underlying22 Tryd.underlying3 (by kernel_rfl) (by rw [IntKind.wrap_i64]; have := (b).toNat_lt; omega)) ?_
  refine St.sv (.int .i64 (b.toNat : Int)) rfl (by kernel_rfl) ?_
  refine St.fin (⟨#[.int .u16 (a.toNat : Int), .int .u16 (b.toNat : Int), .int .u16 (c.toNat : Int), undef, undef, undef, .bool false, .int .i64 (a.toNat : Int), .int .i64 (b.toNat : Int), undef, undef, undef, .int .u16 (a.toNat : Int), .int .i64 (a.toNat : Int), .int .u16 (b.toNat : Int), .int .i64 (b.toNat : Int), undef, undef, undef, undef, undef, undef, undef, undef, undef, undef, undef, undef, undef, undef, undef, undef, undef, undef, undef, undef, undef, undef, undef, undef, undef, undef, undef, undef, undef, undef, undef, undef, undef, undef, undef, undef, undef, undef, undef, undef, undef, undef, undef, undef, undef, undef, undef, undef, undef], []⟩) (by kernel_rfl) ?_
  refine St.then_n ?_
  refine wp_seq ?_
  refine St.rgn ?_
  refine St.sv (.int .u16 (c.toNat : Int)) rfl (by kernel_rfl) ?_
  refine St.sv (.int .i64 (c.toNat : Int)) rfl (St.e_conv (k' := .u16) (a := (c.toNat : Int)) rfl Tryd.underlying22 Tryd.underlying3 (by kernel_rfl) (by rw [IntKind.wrap_i64]; have := (c).toNat_lt; omega)) ?_
  refine St.sv (.int .i64 (c.toNat : Int)) rfl (by kernel_rfl) ?_
  refine St.fin (⟨#[.int .u16 (a.toNat : Int), .int .u16 (b.toNat : Int), .int .u16 (c.toNat : Int), undef, undef, undef, .bool false, .int .i64 (a.toNat : Int), .int .i64 (b.toNat : Int), .int .i64 (c.toNat : Int), undef, undef, .int .u16 (a.toNat : Int), .int .i64 (a.toNat : Int), .int .u16 (b.toNat : Int), .int .i64 (b.toNat : Int), .int .u16 (c.toNat : Int), .int .i64 (c.toNat : Int), undef, undef, undef, undef, undef, undef, undef, undef, undef, undef, undef, undef, undef, undef, undef, undef, undef, undef, undef, undef, undef, undef, undef, undef, undef, undef, undef, undef, undef, undef, undef, undef, undef, undef, undef, undef, undef, undef, undef, undef, undef, undef, undef, undef, undef, undef, undef], []⟩) (by kernel_rfl) ?_
  refine St.then_n ?_
  refine wp_seq ?_
  refine St.rgn ?_
  refine St.sv (.int .i64 (a.toNat : Int)) rfl (by kernel_rfl) ?_
  refine St.scall rfl (by kernel_rfl) (Secret.place_any a.toNat (by first | omega | (simp; omega) | simp) w (hT.keep HS1.chg (by simp))) ?_
  rintro _ w2 ⟨rfl, rfl⟩; refine ⟨_, rfl, ?_⟩
  refine St.sv (.int .i64 ((place a.toNat : Nat) : Int)) rfl (by kernel_rfl) ?_
  refine St.fin (⟨#[.int .u16 (a.toNat : Int), .int .u16 (b.toNat : Int), .int .u16 (c.toNat : Int), undef, undef, undef, .bool false, .int .i64 (a.toNat : Int), .int .i64 (b.toNat : Int), .int .i64 (c.toNat : Int), .int .i64 ((place a.toNat : Nat) : Int), undef, .int .u16 (a.toNat : Int), .int .i64 (a.toNat : Int), .int .u16 (b.toNat : Int), .int .i64 (b.toNat : Int), .int .u16 (c.toNat : Int), .int .i64 (c.toNat : Int), .int .i64 (a.toNat : Int), .int .i64 ((place a.toNat : Nat) : Int), undef, undef, undef, undef, undef, undef, undef, undef, undef, undef, undef, undef, undef, undef, undef, undef, undef, undef, undef, undef, undef, undef, undef, undef, undef, undef, undef, undef, undef, undef, undef, undef, undef, undef, undef, undef, undef, undef, undef, undef, undef, undef, undef, undef, undef], []⟩) (by kernel_rfl) ?_
  refine St.then_n ?_
  refine wp_seq ?_
  cases hg3 : decide ((b.toNat : Int) ≥ (a.toNat : Int))
  · skip
    have q4 := of_decide_eq_false hg3
    refine St.rgn ?_
    refine St.sv (.int .i64 (b.toNat : Int)) rfl (by kernel_rfl) ?_
    refine St.sv (.int .i64 (a.toNat : Int)) rfl (by kernel_rfl) ?_
    refine St.sv (.bool false) rfl (St.vb (by kernel_rfl) hg3) ?_
    refine St.sv (.bool false) rfl (by kernel_rfl) ?_
    refine St.skip (by kernel_rfl) ?_
    refine St.skip (by kernel_rfl) ?_
    refine St.skip (by kernel_rfl) ?_
    refine St.skip (by kernel_rfl) ?_
    refine St.skip (by kernel_rfl) ?_
    refine St.skip (by kernel_rfl) ?_
    refine St.sv (.bool false) rfl (by kernel_rfl) ?_
    refine St.sv (.bool false) rfl (by kernel_rfl) ?_
    refine St.fin (⟨#[.int .u16 (a.toNat : Int), .int .u16 (b.toNat : Int), .int .u16 (c.toNat : Int), undef, undef, undef, .bool false, .int .i64 (a.toNat : Int), .int .i64 (b.toNat : Int), .int .i64 (c.toNat : Int), .int .i64 ((place a.toNat : Nat) : Int), .bool false, .int .u16 (a.toNat : Int), .int .i64 (a.toNat : Int), .int .u16 (b.toNat : Int), .int .i64 (b.toNat : Int), .int .u16 (c.toNat : Int), .int .i64 (c.toNat : Int), .int .i64 (a.toNat : Int), .int .i64 ((place a.toNat : Nat) : Int), .int .i64 (b.toNat : Int), .int .i64 (a.toNat : Int), .bool false, .bool false, undef, undef, undef, undef, undef, undef, .bool false, undef, undef, undef, undef, undef, undef, undef, undef, undef, undef, undef, undef, undef, undef, undef, undef, undef, undef, undef, undef, undef, undef, undef, undef, undef, undef, undef, undef, undef, undef, undef, undef, undef, undef], []⟩) (by kernel_rfl) ?_
    refine St.then_n ?_
    refine wp_seq ?_
    refine St.rgn ?_
    refine St.sv (.int .i64 (a.toNat : Int)) rfl (by kernel_rfl) ?_
    refine St.sv (.int .i64 (a.toNat : Int)) rfl (by kernel_rfl) ?_
    refine St.scall rfl (by kernel_rfl) (Secret.can_yes a.toNat a.toNat (by first | omega | (simp; omega) | simp) (by first | omega | (simp; omega) | simp) w (hT.keep HS1.chg (by simp))) ?_
    rintro _ w5 ⟨rfl, h6⟩; refine ⟨.bool true, congrArg (fun b => Ending.returned (.bool b)) (show (can a.toNat a.toNat) = true from (show (can a.toNat a.toNat) = true from (can_refl _))), ?_⟩
    have HS7 := HS1.quiet h6
    clear HS1
    refine St.sv (.bool true) rfl (by kernel_rfl) ?_
    refine St.svq (.int .i64 (a.toNat : Int)) (by kernel_rfl) (by kernel_rfl) ?_
    refine St.svq (.int .i64 (b.toNat : Int)) (by kernel_rfl) (by kernel_rfl) ?_
    refine St.scallq (by kernel_rfl) (by kernel_rfl) (Secret.can_yes a.toNat b.toNat (by first | omega | (simp; omega) | simp) (by first | omega | (simp; omega) | simp) w5 (hT.keep HS7.chg (by simp))) ?_
    rintro _ w8 ⟨rfl, h9⟩; refine ⟨.bool false, congrArg (fun b => Ending.returned (.bool b)) (show (can a.toNat b.toNat) = false from (show (can a.toNat b.toNat) = false from (hob (by omega) (by omega)))), ?_⟩
    have HS10 := HS7.quiet h9
    clear HS7
    refine St.svq (.bool false) (by kernel_rfl) (by kernel_rfl) ?_
    refine St.svq (.bool true) (by kernel_rfl) (by kernel_rfl) ?_
    refine St.sv (.bool true) rfl (by kernel_rfl) ?_
    refine St.sv (.bool true) rfl (by kernel_rfl) ?_
    refine St.svq (.int .i64 (a.toNat : Int)) (by kernel_rfl) (by kernel_rfl) ?_
    refine St.svq (.int .i64 (b.toNat : Int)) (by kernel_rfl) (by kernel_rfl) ?_
    refine St.scallq (by kernel_rfl) (by kernel_rfl) (Secret.can_yes a.toNat b.toNat (by first | omega | (simp; omega) | simp) (by first | omega | (simp; omega) | simp) w8 (hT.keep HS10.chg (by simp))) ?_
    rintro _ w11 ⟨rfl, h12⟩; refine ⟨.bool false, congrArg (fun b => Ending.returned (.bool b)) (show (can a.toNat b.toNat) = false from (show (can a.toNat b.toNat) = false from (hob (by omega) (by omega)))), ?_⟩
    have HS13 := HS10.quiet h12
    clear HS10
    refine St.svq (.bool true) (by kernel_rfl) (by kernel_rfl) ?_
    refine St.svq (.bool true) (by kernel_rfl) (by kernel_rfl) ?_
    refine St.skip (by kernel_rfl) ?_
    refine St.skip (by kernel_rfl) ?_
    refine St.skip (by kernel_rfl) ?_
    refine St.skip (by kernel_rfl) ?_
    refine St.svq (.bool true) (by kernel_rfl) (by kernel_rfl) ?_
    refine St.svq (.bool true) (by kernel_rfl) (by kernel_rfl) ?_
    refine St.skip (by kernel_rfl) ?_
    refine St.skip (by kernel_rfl) ?_
    refine St.skip (by kernel_rfl) ?_
    refine St.svq (.bool true) (by kernel_rfl) (by kernel_rfl) ?_
    refine St.sv (.bool true) rfl (by kernel_rfl) ?_
    refine St.sv (.bool true) rfl (by kernel_rfl) ?_
    refine St.svq (.int .i64 (a.toNat : Int)) (by kernel_rfl) (by kernel_rfl) ?_
    refine St.scallq (by kernel_rfl) (by kernel_rfl) (Secret.can_yes 0 a.toNat (by first | omega | (simp; omega) | simp) (by first | omega | (simp; omega) | simp) w11 (hT.keep HS13.chg (by simp))) ?_
    rintro _ w14 ⟨rfl, h15⟩; refine ⟨.bool true, congrArg (fun b => Ending.returned (.bool b)) (show (can 0 a.toNat) = true from (show (can 0 a.toNat) = true from (can_zero _ (by omega)))), ?_⟩
    have HS16 := HS13.quiet h15
    clear HS13
    refine St.sv (.bool true) rfl (by kernel_rfl) ?_
    refine St.sv (.bool true) rfl (by kernel_rfl) ?_
    refine St.scallq (by kernel_rfl) (by kernel_rfl) (Secret.shown_can w14 (hT.keep HS16.chg (by simp))) ?_
    rintro _ w17 ⟨rfl, h18⟩; refine ⟨_, rfl, ?_⟩
    have HS19 := HS16.quiet h18
    clear HS16
    refine St.sv (.bool true) rfl (by kernel_rfl) ?_
    refine St.sv (.bool true) rfl (by kernel_rfl) ?_
    refine St.fin (⟨#[.int .u16 (a.toNat : Int), .int .u16 (b.toNat : Int), .int .u16 (c.toNat : Int), undef, undef, undef, .bool true, .int .i64 (a.toNat : Int), .int .i64 (b.toNat : Int), .int .i64 (c.toNat : Int), .int .i64 ((place a.toNat : Nat) : Int), .bool false, .int .u16 (a.toNat : Int), .int .i64 (a.toNat : Int), .int .u16 (b.toNat : Int), .int .i64 (b.toNat : Int), .int .u16 (c.toNat : Int), .int .i64 (c.toNat : Int), .int .i64 (a.toNat : Int), .int .i64 ((place a.toNat : Nat) : Int), .int .i64 (b.toNat : Int), .int .i64 (a.toNat : Int), .bool false, .bool false, undef, undef, undef, undef, undef, undef, .bool false, .int .i64 (a.toNat : Int), .int .i64 (a.toNat : Int), .bool true, .bool true, .int .i64 (a.toNat : Int), .int .i64 (b.toNat : Int), .bool false, .bool false, .bool true, .bool true, .bool true, .int .i64 (a.toNat : Int), .int .i64 (b.toNat : Int), .bool false, .bool true, .bool true, undef, undef, undef, undef, .bool true, .bool true, undef, undef, undef, .bool true, .bool true, .bool true, .int .i64 (a.toNat : Int), .bool true, .bool true, .bool true, .bool true, .bool true], []⟩) (by kernel_rfl) ?_
    refine St.then_n ?_
    refine wp_ret ?_
    refine bodyPost_ret (v := .bool true) (by kernel_rfl) rfl ?_
    -- end 0: []
    exact ⟨rfl, HS19.only⟩
  · skip
    have q20 := of_decide_eq_true hg3
    refine St.rgn ?_
    refine St.sv (.int .i64 (b.toNat : Int)) rfl (by kernel_rfl) ?_
    refine St.sv (.int .i64 (a.toNat : Int)) rfl (by kernel_rfl) ?_
    refine St.sv (.bool true) rfl (St.vb (by kernel_rfl) hg3) ?_
    refine St.sv (.bool true) rfl (by kernel_rfl) ?_
    refine St.svq (.int .i64 (b.toNat : Int)) (by kernel_rfl) (by kernel_rfl) ?_
    refine St.svq (.int .i64 (a.toNat : Int)) (by kernel_rfl) (by kernel_rfl) ?_
    refine St.svq (.int .i64 ((place a.toNat : Nat) : Int)) (by kernel_rfl) (by kernel_rfl) ?_
    refine St.svq (.int .i64 (q : Int)) (by kernel_rfl) (St.e_shl (k' := .i64) (a := 1) (b := ((place a.toNat : Nat) : Int)) rfl (by kernel_rfl) (by kernel_rfl) (by omega) (hq ▸ St.shl_one _ (by omega))) ?_
    refine St.svq (.int .i64 ((a.toNat + q : Nat) : Int)) (by kernel_rfl) (St.e_add (a := (a.toNat : Int)) (b := (q : Int)) rfl (by kernel_rfl) (by kernel_rfl) (by rw [IntKind.wrap_i64]; omega)) ?_
    refine St.svq (.bool (decide ((b.toNat : Int) < ((a.toNat + q : Nat) : Int)))) (by kernel_rfl) (by kernel_rfl) ?_
    refine St.sv (.bool (decide ((b.toNat : Int) < ((a.toNat + q : Nat) : Int)))) rfl (by kernel_rfl) ?_
    refine St.sv (.bool (decide ((b.toNat : Int) < ((a.toNat + q : Nat) : Int)))) rfl (by kernel_rfl) ?_
    refine St.fin (⟨#[.int .u16 (a.toNat : Int), .int .u16 (b.toNat : Int), .int .u16 (c.toNat : Int), undef, undef, undef, .bool false, .int .i64 (a.toNat : Int), .int .i64 (b.toNat : Int), .int .i64 (c.toNat : Int), .int .i64 ((place a.toNat : Nat) : Int), .bool (decide ((b.toNat : Int) < ((a.toNat + q : Nat) : Int))), .int .u16 (a.toNat : Int), .int .i64 (a.toNat : Int), .int .u16 (b.toNat : Int), .int .i64 (b.toNat : Int), .int .u16 (c.toNat : Int), .int .i64 (c.toNat : Int), .int .i64 (a.toNat : Int), .int .i64 ((place a.toNat : Nat) : Int), .int .i64 (b.toNat : Int), .int .i64 (a.toNat : Int), .bool true, .bool true, .int .i64 (b.toNat : Int), .int .i64 (a.toNat : Int), .int .i64 ((place a.toNat : Nat) : Int), .int .i64 (q : Int), .int .i64 ((a.toNat + q : Nat) : Int), .bool (decide ((b.toNat : Int) < ((a.toNat + q : Nat) : Int))), .bool (decide ((b.toNat : Int) < ((a.toNat + q : Nat) : Int))), undef, undef, undef, undef, undef, undef, undef, undef, undef, undef, undef, undef, undef, undef, undef, undef, undef, undef, undef, undef, undef, undef, undef, undef, undef, undef, undef, undef, undef, undef, undef, undef, undef, undef], []⟩) (by kernel_rfl) ?_
    refine St.then_n ?_
    refine wp_seq ?_
    cases hg21 : !(can a.toNat b.toNat)
    · skip
      cases hg23 : !(can b.toNat c.toNat)
      · skip
        refine St.rgn ?_
        refine St.sv (.int .i64 (a.toNat : Int)) rfl (by kernel_rfl) ?_
        refine St.sv (.int .i64 (a.toNat : Int)) rfl (by kernel_rfl) ?_
        refine St.scall rfl (by kernel_rfl) (Secret.can_yes a.toNat a.toNat (by first | omega | (simp; omega) | simp) (by first | omega | (simp; omega) | simp) w (hT.keep HS1.chg (by simp))) ?_
        rintro _ w25 ⟨rfl, h26⟩; refine ⟨.bool true, congrArg (fun b => Ending.returned (.bool b)) (show (can a.toNat a.toNat) = true from (show (can a.toNat a.toNat) = true from (can_refl _))), ?_⟩
        have HS27 := HS1.quiet h26
        clear HS1
        refine St.sv (.bool true) rfl (by kernel_rfl) ?_
        refine St.svq (.int .i64 (a.toNat : Int)) (by kernel_rfl) (by kernel_rfl) ?_
        refine St.svq (.int .i64 (b.toNat : Int)) (by kernel_rfl) (by kernel_rfl) ?_
        refine St.scallq (by kernel_rfl) (by kernel_rfl) (Secret.can_yes a.toNat b.toNat (by first | omega | (simp; omega) | simp) (by first | omega | (simp; omega) | simp) w25 (hT.keep HS27.chg (by simp))) ?_
        rintro _ w28 ⟨rfl, h29⟩; refine ⟨_, rfl, ?_⟩
        have HS30 := HS27.quiet h29
        clear HS27
        refine St.svq (.bool (decide ((b.toNat : Int) < ((a.toNat + q : Nat) : Int)))) (by kernel_rfl) (by kernel_rfl) ?_
        refine St.svq (.bool true) (by kernel_rfl) (St.vb (by kernel_rfl) (show ((can a.toNat b.toNat) == (decide ((b.toNat : Int) < ((a.toNat + q : Nat) : Int)))) = true from (hiff (by omega)))) ?_
        refine St.sv (.bool true) rfl (by kernel_rfl) ?_
        refine St.sv (.bool true) rfl (by kernel_rfl) ?_
        refine St.svq (.int .i64 (a.toNat : Int)) (by kernel_rfl) (by kernel_rfl) ?_
        refine St.svq (.int .i64 (b.toNat : Int)) (by kernel_rfl) (by kernel_rfl) ?_
        refine St.scallq (by kernel_rfl) (by kernel_rfl) (Secret.can_yes a.toNat b.toNat (by first | omega | (simp; omega) | simp) (by first | omega | (simp; omega) | simp) w28 (hT.keep HS30.chg (by simp))) ?_
        rintro _ w31 ⟨rfl, h32⟩; refine ⟨_, rfl, ?_⟩
        have HS33 := HS30.quiet h32
        clear HS30
        refine St.svq (.bool false) (by kernel_rfl) (St.vb (by kernel_rfl) hg21) ?_
        refine St.svq (.bool false) (by kernel_rfl) (by kernel_rfl) ?_
        refine St.svq (.int .i64 (b.toNat : Int)) (by kernel_rfl) (by kernel_rfl) ?_
        refine St.svq (.int .i64 (c.toNat : Int)) (by kernel_rfl) (by kernel_rfl) ?_
        refine St.scallq (by kernel_rfl) (by kernel_rfl) (Secret.can_yes b.toNat c.toNat (by first | omega | (simp; omega) | simp) (by first | omega | (simp; omega) | simp) w31 (hT.keep HS33.chg (by simp))) ?_
        rintro _ w34 ⟨rfl, h35⟩; refine ⟨_, rfl, ?_⟩
        have HS36 := HS33.quiet h35
        clear HS33
        refine St.svq (.bool false) (by kernel_rfl) (St.vb (by kernel_rfl) hg23) ?_
        refine St.svq (.bool false) (by kernel_rfl) (by kernel_rfl) ?_
        refine St.svq (.bool false) (by kernel_rfl) (by kernel_rfl) ?_
        refine St.svq (.int .i64 (a.toNat : Int)) (by kernel_rfl) (by kernel_rfl) ?_
        refine St.svq (.int .i64 (c.toNat : Int)) (by kernel_rfl) (by kernel_rfl) ?_
        refine St.scallq (by kernel_rfl) (by kernel_rfl) (Secret.can_yes a.toNat c.toNat (by first | omega | (simp; omega) | simp) (by first | omega | (simp; omega) | simp) w34 (hT.keep HS36.chg (by simp))) ?_
        rintro _ w37 ⟨rfl, h38⟩; refine ⟨.bool true, congrArg (fun b => Ending.returned (.bool b)) (show (can a.toNat c.toNat) = true from (show (can a.toNat c.toNat) = true from (can_trans a.toNat b.toNat c.toNat (by omega) (by omega) (by omega) (by simpa using hg21) (by simpa using hg23)))), ?_⟩
        have HS39 := HS36.quiet h38
        clear HS36
        refine St.svq (.bool true) (by kernel_rfl) (by kernel_rfl) ?_
        refine St.sv (.bool true) rfl (by kernel_rfl) ?_
        refine St.sv (.bool true) rfl (by kernel_rfl) ?_
        refine St.svq (.int .i64 (a.toNat : Int)) (by kernel_rfl) (by kernel_rfl) ?_
        refine St.scallq (by kernel_rfl) (by kernel_rfl) (Secret.can_yes 0 a.toNat (by first | omega | (simp; omega) | simp) (by first | omega | (simp; omega) | simp) w37 (hT.keep HS39.chg (by simp))) ?_
        rintro _ w40 ⟨rfl, h41⟩; refine ⟨.bool true, congrArg (fun b => Ending.returned (.bool b)) (show (can 0 a.toNat) = true from (show (can 0 a.toNat) = true from (can_zero _ (by omega)))), ?_⟩
        have HS42 := HS39.quiet h41
        clear HS39
        refine St.sv (.bool true) rfl (by kernel_rfl) ?_
        refine St.sv (.bool true) rfl (by kernel_rfl) ?_
        refine St.scallq (by kernel_rfl) (by kernel_rfl) (Secret.shown_can w40 (hT.keep HS42.chg (by simp))) ?_
        rintro _ w43 ⟨rfl, h44⟩; refine ⟨_, rfl, ?_⟩
        have HS45 := HS42.quiet h44
        clear HS42
        refine St.sv (.bool true) rfl (by kernel_rfl) ?_
        refine St.sv (.bool true) rfl (by kernel_rfl) ?_
        refine St.fin (⟨#[.int .u16 (a.toNat : Int), .int .u16 (b.toNat : Int), .int .u16 (c.toNat : Int), undef, undef, undef, .bool true, .int .i64 (a.toNat : Int), .int .i64 (b.toNat : Int), .int .i64 (c.toNat : Int), .int .i64 ((place a.toNat : Nat) : Int), .bool (decide ((b.toNat : Int) < ((a.toNat + q : Nat) : Int))), .int .u16 (a.toNat : Int), .int .i64 (a.toNat : Int), .int .u16 (b.toNat : Int), .int .i64 (b.toNat : Int), .int .u16 (c.toNat : Int), .int .i64 (c.toNat : Int), .int .i64 (a.toNat : Int), .int .i64 ((place a.toNat : Nat) : Int), .int .i64 (b.toNat : Int), .int .i64 (a.toNat : Int), .bool true, .bool true, .int .i64 (b.toNat : Int), .int .i64 (a.toNat : Int), .int .i64 ((place a.toNat : Nat) : Int), .int .i64 (q : Int), .int .i64 ((a.toNat + q : Nat) : Int), .bool (decide ((b.toNat : Int) < ((a.toNat + q : Nat) : Int))), .bool (decide ((b.toNat : Int) < ((a.toNat + q : Nat) : Int))), .int .i64 (a.toNat : Int), .int .i64 (a.toNat : Int), .bool true, .bool true, .int .i64 (a.toNat : Int), .int .i64 (b.toNat : Int), .bool (can a.toNat b.toNat), .bool (decide ((b.toNat : Int) < ((a.toNat + q : Nat) : Int))), .bool true, .bool true, .bool true, .int .i64 (a.toNat : Int), .int .i64 (b.toNat : Int), .bool (can a.toNat b.toNat), .bool false, .bool false, .int .i64 (b.toNat : Int), .int .i64 (c.toNat : Int), .bool (can b.toNat c.toNat), .bool false, .bool false, .bool false, .int .i64 (a.toNat : Int), .int .i64 (c.toNat : Int), .bool true, .bool true, .bool true, .bool true, .int .i64 (a.toNat : Int), .bool true, .bool true, .bool true, .bool true, .bool true], []⟩) (by kernel_rfl) ?_
        refine St.then_n ?_
        refine wp_ret ?_
        refine bodyPost_ret (v := .bool true) (by kernel_rfl) rfl ?_
        -- end 1: []
        exact ⟨rfl, HS45.only⟩
      · skip
        refine St.rgn ?_
        refine St.sv (.int .i64 (a.toNat : Int)) rfl (by kernel_rfl) ?_
        refine St.sv (.int .i64 (a.toNat : Int)) rfl (by kernel_rfl) ?_
        refine St.scall rfl (by kernel_rfl) (Secret.can_yes a.toNat a.toNat (by first | omega | (simp; omega) | simp) (by first | omega | (simp; omega) | simp) w (hT.keep HS1.chg (by simp))) ?_
        rintro _ w47 ⟨rfl, h48⟩; refine ⟨.bool true, congrArg (fun b => Ending.returned (.bool b)) (show (can a.toNat a.toNat) = true from (show (can a.toNat a.toNat) = true from (can_refl _))), ?_⟩
        have HS49 := HS1.quiet h48
        clear HS1
        refine St.sv (.bool true) rfl (by kernel_rfl) ?_
        refine St.svq (.int .i64 (a.toNat : Int)) (by kernel_rfl) (by kernel_rfl) ?_
        refine St.svq (.int .i64 (b.toNat : Int)) (by kernel_rfl) (by kernel_rfl) ?_
        refine St.scallq (by kernel_rfl) (by kernel_rfl) (Secret.can_yes a.toNat b.toNat (by first | omega | (simp; omega) | simp) (by first | omega | (simp; omega) | simp) w47 (hT.keep HS49.chg (by simp))) ?_
        rintro _ w50 ⟨rfl, h51⟩; refine ⟨_, rfl, ?_⟩
        have HS52 := HS49.quiet h51
        clear HS49
        refine St.svq (.bool (decide ((b.toNat : Int) < ((a.toNat + q : Nat) : Int)))) (by kernel_rfl) (by kernel_rfl) ?_
        refine St.svq (.bool true) (by kernel_rfl) (St.vb (by kernel_rfl) (show ((can a.toNat b.toNat) == (decide ((b.toNat : Int) < ((a.toNat + q : Nat) : Int)))) = true from (hiff (by omega)))) ?_
        refine St.sv (.bool true) rfl (by kernel_rfl) ?_
        refine St.sv (.bool true) rfl (by kernel_rfl) ?_
        refine St.svq (.int .i64 (a.toNat : Int)) (by kernel_rfl) (by kernel_rfl) ?_
        refine St.svq (.int .i64 (b.toNat : Int)) (by kernel_rfl) (by kernel_rfl) ?_
        refine St.scallq (by kernel_rfl) (by kernel_rfl) (Secret.can_yes a.toNat b.toNat (by first | omega | (simp; omega) | simp) (by first | omega | (simp; omega) | simp) w50 (hT.keep HS52.chg (by simp))) ?_
        rintro _ w53 ⟨rfl, h54⟩; refine ⟨_, rfl, ?_⟩
        have HS55 := HS52.quiet h54
        clear HS52
        refine St.svq (.bool false) (by kernel_rfl) (St.vb (by kernel_rfl) hg21) ?_
        refine St.svq (.bool false) (by kernel_rfl) (by kernel_rfl) ?_
        refine St.svq (.int .i64 (b.toNat : Int)) (by kernel_rfl) (by kernel_rfl) ?_
        refine St.svq (.int .i64 (c.toNat : Int)) (by kernel_rfl) (by kernel_rfl) ?_
        refine St.scallq (by kernel_rfl) (by kernel_rfl) (Secret.can_yes b.toNat c.toNat (by first | omega | (simp; omega) | simp) (by first | omega | (simp; omega) | simp) w53 (hT.keep HS55.chg (by simp))) ?_
        rintro _ w56 ⟨rfl, h57⟩; refine ⟨_, rfl, ?_⟩
        have HS58 := HS55.quiet h57
        clear HS55
        refine St.svq (.bool true) (by kernel_rfl) (St.vb (by kernel_rfl) hg23) ?_
        refine St.svq (.bool true) (by kernel_rfl) (by kernel_rfl) ?_
        refine St.svq (.bool true) (by kernel_rfl) (by kernel_rfl) ?_
        refine St.skip (by kernel_rfl) ?_
        refine St.skip (by kernel_rfl) ?_
        refine St.skip (by kernel_rfl) ?_
        refine St.svq (.bool true) (by kernel_rfl) (by kernel_rfl) ?_
        refine St.sv (.bool true) rfl (by kernel_rfl) ?_
        refine St.sv (.bool true) rfl (by kernel_rfl) ?_
        refine St.svq (.int .i64 (a.toNat : Int)) (by kernel_rfl) (by kernel_rfl) ?_
        refine St.scallq (by kernel_rfl) (by kernel_rfl) (Secret.can_yes 0 a.toNat (by first | omega | (simp; omega) | simp) (by first | omega | (simp; omega) | simp) w56 (hT.keep HS58.chg (by simp))) ?_
        rintro _ w59 ⟨rfl, h60⟩; refine ⟨.bool true, congrArg (fun b => Ending.returned (.bool b)) (show (can 0 a.toNat) = true from (show (can 0 a.toNat) = true from (can_zero _ (by omega)))), ?_⟩
        have HS61 := HS58.quiet h60
        clear HS58
        refine St.sv (.bool true) rfl (by kernel_rfl) ?_
        refine St.sv (.bool true) rfl (by kernel_rfl) ?_
        refine St.scallq (by kernel_rfl) (by kernel_rfl) (Secret.shown_can w59 (hT.keep HS61.chg (by simp))) ?_
        rintro _ w62 ⟨rfl, h63⟩; refine ⟨_, rfl, ?_⟩
        have HS64 := HS61.quiet h63
        clear HS61
        refine St.sv (.bool true) rfl (by kernel_rfl) ?_
        refine St.sv (.bool true) rfl (by kernel_rfl) ?_
        refine St.fin (⟨#[.int .u16 (a.toNat : Int), .int .u16 (b.toNat : Int), .int .u16 (c.toNat : Int), undef, undef, undef, .bool true, .int .i64 (a.toNat : Int), .int .i64 (b.toNat : Int), .int .i64 (c.toNat : Int), .int .i64 ((place a.toNat : Nat) : Int), .bool (decide ((b.toNat : Int) < ((a.toNat + q : Nat) : Int))), .int .u16 (a.toNat : Int), .int .i64 (a.toNat : Int), .int .u16 (b.toNat : Int), .int .i64 (b.toNat : Int), .int .u16 (c.toNat : Int), .int .i64 (c.toNat : Int), .int .i64 (a.toNat : Int), .int .i64 ((place a.toNat : Nat) : Int), .int .i64 (b.toNat : Int), .int .i64 (a.toNat : Int), .bool true, .bool true, .int .i64 (b.toNat : Int), .int .i64 (a.toNat : Int), .int .i64 ((place a.toNat : Nat) : Int), .int .i64 (q : Int), .int .i64 ((a.toNat + q : Nat) : Int), .bool (decide ((b.toNat : Int) < ((a.toNat + q : Nat) : Int))), .bool (decide ((b.toNat : Int) < ((a.toNat + q : Nat) : Int))), .int .i64 (a.toNat : Int), .int .i64 (a.toNat : Int), .bool true, .bool true, .int .i64 (a.toNat : Int), .int .i64 (b.toNat : Int), .bool (can a.toNat b.toNat), .bool (decide ((b.toNat : Int) < ((a.toNat + q : Nat) : Int))), .bool true, .bool true, .bool true, .int .i64 (a.toNat : Int), .int .i64 (b.toNat : Int), .bool (can a.toNat b.toNat), .bool false, .bool false, .int .i64 (b.toNat : Int), .int .i64 (c.toNat : Int), .bool (can b.toNat c.toNat), .bool true, .bool true, .bool true, undef, undef, undef, .bool true, .bool true, .bool true, .int .i64 (a.toNat : Int), .bool true, .bool true, .bool true, .bool true, .bool true], []⟩) (by kernel_rfl) ?_
        refine St.then_n ?_
        refine wp_ret ?_
        refine bodyPost_ret (v := .bool true) (by kernel_rfl) rfl ?_
        -- end 2: []
        exact ⟨rfl, HS64.only⟩
    · skip
      refine St.rgn ?_
      refine St.sv (.int .i64 (a.toNat : Int)) rfl (by kernel_rfl) ?_
      refine St.sv (.int .i64 (a.toNat : Int)) rfl (by kernel_rfl) ?_
      refine St.scall rfl (by kernel_rfl) (Secret.can_yes a.toNat a.toNat (by first | omega | (simp; omega) | simp) (by first | omega | (simp; omega) | simp) w (hT.keep HS1.chg (by simp))) ?_
      rintro _ w66 ⟨rfl, h67⟩; refine ⟨.bool true, congrArg (fun b => Ending.returned (.bool b)) (show (can a.toNat a.toNat) = true from (show (can a.toNat a.toNat) = true from (can_refl _))), ?_⟩
      have HS68 := HS1.quiet h67
      clear HS1
      refine St.sv (.bool true) rfl (by kernel_rfl) ?_
      refine St.svq (.int .i64 (a.toNat : Int)) (by kernel_rfl) (by kernel_rfl) ?_
      refine St.svq (.int .i64 (b.toNat : Int)) (by kernel_rfl) (by kernel_rfl) ?_
      refine St.scallq (by kernel_rfl) (by kernel_rfl) (Secret.can_yes a.toNat b.toNat (by first | omega | (simp; omega) | simp) (by first | omega | (simp; omega) | simp) w66 (hT.keep HS68.chg (by simp))) ?_
      rintro _ w69 ⟨rfl, h70⟩; refine ⟨_, rfl, ?_⟩
      have HS71 := HS68.quiet h70
      clear HS68
      refine St.svq (.bool (decide ((b.toNat : Int) < ((a.toNat + q : Nat) : Int)))) (by kernel_rfl) (by kernel_rfl) ?_
      refine St.svq (.bool true) (by kernel_rfl) (St.vb (by kernel_rfl) (show ((can a.toNat b.toNat) == (decide ((b.toNat : Int) < ((a.toNat + q : Nat) : Int)))) = true from (hiff (by omega)))) ?_
      refine St.sv (.bool true) rfl (by kernel_rfl) ?_
      refine St.sv (.bool true) rfl (by kernel_rfl) ?_
      refine St.svq (.int .i64 (a.toNat : Int)) (by kernel_rfl) (by kernel_rfl) ?_
      refine St.svq (.int .i64 (b.toNat : Int)) (by kernel_rfl) (by kernel_rfl) ?_
      refine St.scallq (by kernel_rfl) (by kernel_rfl) (Secret.can_yes a.toNat b.toNat (by first | omega | (simp; omega) | simp) (by first | omega | (simp; omega) | simp) w69 (hT.keep HS71.chg (by simp))) ?_
      rintro _ w72 ⟨rfl, h73⟩; refine ⟨_, rfl, ?_⟩
      have HS74 := HS71.quiet h73
      clear HS71
      refine St.svq (.bool true) (by kernel_rfl) (St.vb (by kernel_rfl) hg21) ?_
      refine St.svq (.bool true) (by kernel_rfl) (by kernel_rfl) ?_
      refine St.skip (by kernel_rfl) ?_
      refine St.skip (by kernel_rfl) ?_
      refine St.skip (by kernel_rfl) ?_
      refine St.skip (by kernel_rfl) ?_
      refine St.svq (.bool true) (by kernel_rfl) (by kernel_rfl) ?_
      refine St.svq (.bool true) (by kernel_rfl) (by kernel_rfl) ?_
      refine St.skip (by kernel_rfl) ?_
      refine St.skip (by kernel_rfl) ?_
      refine St.skip (by kernel_rfl) ?_
      refine St.svq (.bool true) (by kernel_rfl) (by kernel_rfl) ?_
      refine St.sv (.bool true) rfl (by kernel_rfl) ?_
      refine St.sv (.bool true) rfl (by kernel_rfl) ?_
      refine St.svq (.int .i64 (a.toNat : Int)) (by kernel_rfl) (by kernel_rfl) ?_
      refine St.scallq (by kernel_rfl) (by kernel_rfl) (Secret.can_yes 0 a.toNat (by first | omega | (simp; omega) | simp) (by first | omega | (simp; omega) | simp) w72 (hT.keep HS74.chg (by simp))) ?_
      rintro _ w75 ⟨rfl, h76⟩; refine ⟨.bool true, congrArg (fun b => Ending.returned (.bool b)) (show (can 0 a.toNat) = true from (show (can 0 a.toNat) = true from (can_zero _ (by omega)))), ?_⟩
      have HS77 := HS74.quiet h76
      clear HS74
      refine St.sv (.bool true) rfl (by kernel_rfl) ?_
      refine St.sv (.bool true) rfl (by kernel_rfl) ?_
      refine St.scallq (by kernel_rfl) (by kernel_rfl) (Secret.shown_can w75 (hT.keep HS77.chg (by simp))) ?_
      rintro _ w78 ⟨rfl, h79⟩; refine ⟨_, rfl, ?_⟩
      have HS80 := HS77.quiet h79
      clear HS77
      refine St.sv (.bool true) rfl (by kernel_rfl) ?_
      refine St.sv (.bool true) rfl (by kernel_rfl) ?_
      refine St.fin (⟨#[.int .u16 (a.toNat : Int), .int .u16 (b.toNat : Int), .int .u16 (c.toNat : Int), undef, undef, undef, .bool true, .int .i64 (a.toNat : Int), .int .i64 (b.toNat : Int), .int .i64 (c.toNat : Int), .int .i64 ((place a.toNat : Nat) : Int), .bool (decide ((b.toNat : Int) < ((a.toNat + q : Nat) : Int))), .int .u16 (a.toNat : Int), .int .i64 (a.toNat : Int), .int .u16 (b.toNat : Int), .int .i64 (b.toNat : Int), .int .u16 (c.toNat : Int), .int .i64 (c.toNat : Int), .int .i64 (a.toNat : Int), .int .i64 ((place a.toNat : Nat) : Int), .int .i64 (b.toNat : Int), .int .i64 (a.toNat : Int), .bool true, .bool true, .int .i64 (b.toNat : Int), .int .i64 (a.toNat : Int), .int .i64 ((place a.toNat : Nat) : Int), .int .i64 (q : Int), .int .i64 ((a.toNat + q : Nat) : Int), .bool (decide ((b.toNat : Int) < ((a.toNat + q : Nat) : Int))), .bool (decide ((b.toNat : Int) < ((a.toNat + q : Nat) : Int))), .int .i64 (a.toNat : Int), .int .i64 (a.toNat : Int), .bool true, .bool true, .int .i64 (a.toNat : Int), .int .i64 (b.toNat : Int), .bool (can a.toNat b.toNat), .bool (decide ((b.toNat : Int) < ((a.toNat + q : Nat) : Int))), .bool true, .bool true, .bool true, .int .i64 (a.toNat : Int), .int .i64 (b.toNat : Int), .bool (can a.toNat b.toNat), .bool true, .bool true, undef, undef, undef, undef, .bool true, .bool true, undef, undef, undef, .bool true, .bool true, .bool true, .int .i64 (a.toNat : Int), .bool true, .bool true, .bool true, .bool true, .bool true], []⟩) (by kernel_rfl) ?_
      refine St.then_n ?_
      refine wp_ret ?_
      refine bodyPost_ret (v := .bool true) (by kernel_rfl) rfl ?_
      -- end 3: []
      exact ⟨rfl, HS80.only⟩
end Go.Proofs.YtifnflldceeaaaaDoor.Secret
