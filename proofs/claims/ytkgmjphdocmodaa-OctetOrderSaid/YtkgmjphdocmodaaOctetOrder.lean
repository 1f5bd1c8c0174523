/- OctetOrder's walk. -/
import Derived.Test.YtkgmjphdocmodaaOctetL
import Derived.Laws.Bits64b
namespace Go.Proofs.Ytkgmjphdocmodaa.Octet
open Go.RowKit Go.Proofs.Ytkgmjphdocmodaa.Mem

theorem pow256 (k : Nat) : (256 : Nat) ^ k = 2 ^ (8 * k) := by rw [Nat.pow_mul]
theorem mask_eq (k : Nat) (hk : k ≤ 7) : IntKind.u64.wrap (IntKind.u64.wrap (2 ^ (8 * k)) - 1) = ((256 ^ k - 1 : Nat) : Int) := by
  have h7 : k = 0 ∨ k = 1 ∨ k = 2 ∨ k = 3 ∨ k = 4 ∨ k = 5 ∨ k = 6 ∨ k = 7 := by omega
  rcases h7 with rfl | rfl | rfl | rfl | rfl | rfl | rfl | rfl <;> decide
theorem masked (a k : Nat) (hk : k ≤ 7) (ha : a < 18446744073709551616) : bits .and .u64 (a : Int) ((256 ^ k - 1 : Nat) : Int) = ((a % 256 ^ k : Nat) : Int) := by
  have h1 : 256 ^ k ≤ 256 ^ 7 := Nat.pow_le_pow_right (by decide) hk
  rw [bits_and_u64_nat a (256 ^ k - 1) ha (by omega), pow256, Nat.and_two_pow_sub_one_eq_mod]

theorem be_mod (k n : Nat) : be k (n % 256 ^ k) = be k n := by
  suffices all : ∀ k m, k ≤ m → be k (n % 256 ^ m) = be k n from all k k (Nat.le_refl _)
  intro k
  induction k with
  | zero => intro m _; rfl
  | succ k ih =>
    intro m hm
    rw [be_succ, be_succ, ih m (by omega)]
    congr 1
    apply UInt8.toNat_inj.1
    simp only [UInt8.toNat_ofNat']
    obtain ⟨q, rfl⟩ := Nat.exists_eq_add_of_le hm
    have e : 256 ^ (k + 1 + q) = 256 ^ k * (256 * 256 ^ q) := by rw [Nat.pow_add, Nat.pow_succ, Nat.mul_assoc]
    rw [e, Nat.mod_mul_right_div_self, show 2 ^ 8 = 256 from rfl, Nat.mod_mul_right_mod]
theorem be_less (k : Nat) : ∀ (x y : Nat), x < 256 ^ k → y < 256 ^ k → Op.bytesLess (be k x) (be k y) = decide (x < y) := by
  induction k with
  | zero =>
    intro x y hx hy
    have : ¬ x < y := by simp at hx hy; omega
    simp [be_zero, Op.bytesLess, this]
  | succ k ih =>
    intro x y hx hy
    have hp : 0 < 256 ^ k := Nat.pow_pos (by decide)
    have hx' : x / 256 ^ k < 256 := Nat.div_lt_of_lt_mul (by rw [Nat.pow_succ] at hx; exact hx)
    have hy' : y / 256 ^ k < 256 := Nat.div_lt_of_lt_mul (by rw [Nat.pow_succ] at hy; exact hy)
    have hi := ih (x % 256 ^ k) (y % 256 ^ k) (Nat.mod_lt _ hp) (Nat.mod_lt _ hp)
    rw [be_mod, be_mod] at hi
    rw [be_succ, be_succ, Op.bytesLess, hi]
    have dx := Nat.div_add_mod x (256 ^ k)
    have dy := Nat.div_add_mod y (256 ^ k)
    have mx := Nat.mod_lt x hp
    have my := Nat.mod_lt y hp
    generalize x / 256 ^ k = a at *
    generalize y / 256 ^ k = b at *
    generalize x % 256 ^ k = c at *
    generalize y % 256 ^ k = d at *
    have e1 : (UInt8.ofNat a < UInt8.ofNat b) ↔ a < b := by rw [UInt8.lt_iff_toNat_lt]; simp [Nat.mod_eq_of_lt hx', Nat.mod_eq_of_lt hy']
    have e2 : (UInt8.ofNat a == UInt8.ofNat b) = decide (a = b) := by
      rw [Bool.eq_iff_iff, beq_iff_eq, decide_eq_true_eq, ← UInt8.toNat_inj]; simp [Nat.mod_eq_of_lt hx', Nat.mod_eq_of_lt hy']
    rw [e2]
    simp only [e1]
    generalize 256 ^ k = p at *
    subst dx dy
    rcases Nat.lt_trichotomy a b with h | rfl | h
    · have hm : p * a + p ≤ p * b := by rw [← Nat.mul_succ]; exact Nat.mul_le_mul_left _ h
      have h1 : p * a + c < p * b + d := by omega
      simp [h, h1]
    · simp
    · have hm : p * b + p ≤ p * a := by rw [← Nat.mul_succ]; exact Nat.mul_le_mul_left _ h
      have h1 : ¬ p * a + c < p * b + d := by omega
      have h2 : ¬ a < b := by omega
      have h3 : ¬ a = b := by omega
      simp [h1, h2, h3]

set_option maxHeartbeats 8000000 in
theorem order_any (a b v : Nat) (w : World) (ha : a < 18446744073709551616) (hb : b < 18446744073709551616) (hv : v ≤ 255) :
    Calls Try.prog 3 #[.int .u64 a, .int .u64 b, .int .u8 v] w fun r w' => r = .returned (.bool true) ∧ OnlyNew w w' := by
  have h7 : v % 7 < 7 := Nat.mod_lt _ (by decide)
  have hm := mask_eq (1 + v % 7) (by omega)
  have hma := masked a (1 + v % 7) (by omega) ha
  have hmb := masked b (1 + v % 7) (by omega) hb
  rw [← hm] at hma hmb
  clear hm
  obtain ⟨x, hx⟩ : ∃ x, x = a % 256 ^ (1 + v % 7) := ⟨_, rfl⟩
  obtain ⟨y, hy⟩ : ∃ y, y = b % 256 ^ (1 + v % 7) := ⟨_, rfl⟩
  rw [← hx] at hma
  rw [← hy] at hmb
  have hx1 : x < 256 ^ (1 + v % 7) := by rw [hx]; exact Nat.mod_lt _ (Nat.pow_pos (by decide))
  have hy1 : y < 256 ^ (1 + v % 7) := by rw [hy]; exact Nat.mod_lt _ (Nat.pow_pos (by decide))
  have hxa : x < 18446744073709551616 := by rw [hx]; exact Nat.lt_of_le_of_lt (Nat.mod_le _ _) ha
  have hyb : y < 18446744073709551616 := by rw [hy]; exact Nat.lt_of_le_of_lt (Nat.mod_le _ _) hb
  clear hx hy
  have X1 : numW x (1 + (v : Int) % 7) = (be (1 + v % 7) x, 0) := by
    unfold numW
    rw [if_pos (by
      refine ⟨by omega, by omega, ?_⟩
      rw [show (1 + (v : Int) % 7).toNat = 1 + v % 7 by omega]; exact hx1), show (1 + (v : Int) % 7).toNat = 1 + v % 7 by omega]
  have Y1 : numW y (1 + (v : Int) % 7) = (be (1 + v % 7) y, 0) := by
    unfold numW
    rw [if_pos (by
      refine ⟨by omega, by omega, ?_⟩
      rw [show (1 + (v : Int) % 7).toNat = 1 + v % 7 by omega]; exact hy1), show (1 + (v : Int) % 7).toNat = 1 + v % 7 by omega]
  have Z1 : numW x (1 + (v : Int) % 7 + 1) = (be (1 + v % 7 + 1) x, 0) := by
    unfold numW
    rw [if_pos (by
      refine ⟨by omega, by omega, ?_⟩
      rw [show (1 + (v : Int) % 7 + 1).toNat = 1 + v % 7 + 1 by omega]; exact Nat.lt_of_lt_of_le hx1 (Nat.pow_le_pow_right (by decide) (by omega))), show (1 + (v : Int) % 7 + 1).toNat = 1 + v % 7 + 1 by omega]
  have HX := Lib.hid X1
  have HY := Lib.hid Y1
  have HZ := Lib.hid Z1
  have HA := Lib.hid hma
  have HB := Lib.hid hmb
  have hx2 := Lib.hid hx1
  have hy2 := Lib.hid hy1
  clear X1 Y1 Z1 hma hmb hx1 hy1
  go_enter Try.func3, Try.ntmps3
  go_wp2_with fail
  have N1 := NW.fresh w 26 (w.heap.size + 3) (w.heap.size + 3)
  have N2 := NW.fresh (w.alloc (.cells #[.slice none 0 0] 26)) 26 (w.heap.size + 3) (w.heap.size + 3)
  have N3 := NW.fresh ((w.alloc (.cells #[.slice none 0 0] 26)).alloc (.cells #[.slice none 0 0] 26)) 26 (w.heap.size + 3) (w.heap.size + 3)
  replace N1 := (N1.keep ((Chgd.refl (fun _ => False) _).alloc (.cells #[.slice none 0 0] 26)) (fun h => h) (fun _ _ _ h => h)).keep ((Chgd.refl (fun _ => False) _).alloc (.cells #[.slice none 0 0] 26)) (fun h => h) (fun _ _ _ h => h)
  replace N2 := (N2.keep ((Chgd.refl (fun _ => False) _).alloc (.cells #[.slice none 0 0] 26)) (fun h => h) (fun _ _ _ h => h))
  have O0 : OnlyNew w (((w.alloc (.cells #[.slice none 0 0] 26)).alloc (.cells #[.slice none 0 0] 26)).alloc (.cells #[.slice none 0 0] 26)) := (((Chgd.refl _ w).alloc _).alloc _).alloc _
  have z0 : (((w.alloc (.cells #[.slice none 0 0] 26)).alloc (.cells #[.slice none 0 0] 26)).alloc (.cells #[.slice none 0 0] 26)).heap.size = w.heap.size + 3 := by simp
  simp only [World.size_alloc] at N1 N2 N3
  obtain ⟨w0, hw0⟩ : ∃ w0, w0 = (((w.alloc (.cells #[.slice none 0 0] 26)).alloc (.cells #[.slice none 0 0] 26)).alloc (.cells #[.slice none 0 0] 26)) := ⟨_, rfl⟩
  rw [← hw0] at N1 N2 N3 O0 z0 ⊢
  clear hw0
  rw [HA.out]
  refine (number_any _ _ _ [] x _ _ N1 (by omega) (by omega) (by simp) hxa).mono ?_
  rintro e w1 ⟨rfl, N1, c1⟩
  rw [HX.out] at N1 ⊢
  simp only [List.nil_append] at N1
  have hO1 := O0.trans c1 (fun j hj h => by unfold WS at h; omega)
  replace N2 := N2.keep c1 (fun h => by unfold WS at h; omega) (fun k _ _ h => by unfold WS at h; omega)
  replace N3 := N3.keep c1 (fun h => by unfold WS at h; omega) (fun k _ _ h => by unfold WS at h; omega)
  have z1 := c1.size
  clear c1 O0
  go_wp2_with fail
  rw [HB.out]
  refine (number_any w1.heap.size w1.heap.size _ [] y _ _ (N2.empty _) (by omega) (by omega) (by simp) hyb).mono ?_
  rintro e w2 ⟨rfl, N2, c2⟩
  rw [HY.out] at N2 ⊢
  simp only [List.nil_append] at N2
  have hO2 := hO1.trans c2 (fun j hj h => by unfold WS at h; omega)
  replace N1 := N1.keep c2 (fun h => by unfold WS at h; omega) (fun k _ _ h => by unfold WS at h; omega)
  replace N3 := N3.keep c2 (fun h => by unfold WS at h; omega) (fun k _ _ h => by unfold WS at h; omega)
  have z2 := c2.size
  clear c2 hO1
  go_wp2_with fail
  rw [HA.out]
  refine (number_any w2.heap.size w2.heap.size _ [] x _ _ (N3.empty _) (by omega) (by omega) (by simp) hxa).mono ?_
  rintro e w3 ⟨rfl, N3, c3⟩
  rw [HZ.out] at N3 ⊢
  simp only [List.nil_append] at N3
  have hO3 := hO2.trans c3 (fun j hj h => by unfold WS at h; omega)
  replace N1 := N1.keep c3 (fun h => by unfold WS at h; omega) (fun k _ _ h => by unfold WS at h; omega)
  replace N2 := N2.keep c3 (fun h => by unfold WS at h; omega) (fun k _ _ h => by unfold WS at h; omega)
  have z3 := c3.size
  clear c3 hO2
  go_wp2_with fail
  refine (shown_any w3).mono ?_
  rintro e w4 ⟨rfl, c4⟩
  have hO4 := hO3.trans c4 (fun _ _ h => h)
  replace N1 := N1.keep c4 (fun h => h) (fun _ _ _ h => h)
  replace N2 := N2.keep c4 (fun h => h) (fun _ _ _ h => h)
  replace N3 := N3.keep c4 (fun h => h) (fun _ _ _ h => h)
  clear c4 hO3
  have hl := be_less _ _ _ hx2.out hy2.out
  rw [← bstr_toList (be (1 + v % 7) x), ← bstr_toList (be (1 + v % 7) y)] at hl
  have he : (bstr (be (1 + v % 7 + 1) x)).toList == ({ data := #[0] } ++ bstr (be (1 + v % 7) x)).toList := by
    have e : x / 256 ^ (1 + v % 7) = 0 := Nat.div_eq_of_lt hx2.out
    rw [be_succ, e, show ({ data := #[0] } : ByteArray) = bstr [0] from rfl, bstr_append]
    exact beq_self_eq_true _
  have hz := bstr_size (be (1 + v % 7) x)
  rw [be_length] at hz
  obtain ⟨bx, hbx⟩ : ∃ bx, bx = bstr (be (1 + v % 7) x) := ⟨_, rfl⟩
  obtain ⟨by', hby⟩ : ∃ by', by' = bstr (be (1 + v % 7) y) := ⟨_, rfl⟩
  obtain ⟨bz, hbz⟩ : ∃ bz, bz = bstr (be (1 + v % 7 + 1) x) := ⟨_, rfl⟩
  rw [← hbx, ← hbz] at he
  rw [← hbx, ← hby] at hl
  rw [← hbx] at hz
  have HN := Lib.hid (⟨hbx, hby, hbz⟩ : _ ∧ _ ∧ _)
  have HO := Lib.hid hO4
  clear hbx hby hbz hO4 HX HY HZ hx2 hy2
  have hx64 : bx.size ≤ 8 := by omega
  have HE := Lib.hid he
  clear he z1 z2 z3 z0 hz
  have hA := HA.out
  have hB := HB.out
  clear HA HB ha hb h7 hv hxa hyb
  by_cases hxy : x < y
  all_goals
    simp only [hxy, decide_true, decide_false] at hl
    go_wp2_with (first
      | (refine (wbytes_any _ _ _ _ w4 N1).mono ?_; rintro e w5 ⟨rfl, rfl⟩; rw [← HN.out.1])
      | (refine (wbytes_any _ _ _ _ w4 N2).mono ?_; rintro e w5 ⟨rfl, rfl⟩; rw [← HN.out.2.1])
      | (refine (wbytes_any _ _ _ _ w4 N3).mono ?_; rintro e w5 ⟨rfl, rfl⟩; rw [← HN.out.2.2]))
    go_ret
    exact ⟨ret_bool HE.out, HO.out⟩
end Go.Proofs.Ytkgmjphdocmodaa.Octet
