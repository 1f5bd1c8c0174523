/- Reader.Number. -/
import Derived.Test.YtkgmjphdocmodaaOctetRd
namespace Go.Proofs.Ytkgmjphdocmodaa.Octet
open Go.RowKit Go.Proofs.Ytkgmjphdocmodaa.Mem

/-- The number that some bytes are, the highest one first. -/
def val (l : List UInt8) : Nat := l.foldl (fun a c => a * 256 + c.toNat) 0
theorem val_snoc (l : List UInt8) (c : UInt8) : val (l ++ [c]) = val l * 256 + c.toNat := by simp [val, List.foldl_append]
theorem val_fold (l : List UInt8) : ∀ a : Nat, l.foldl (fun a c => a * 256 + c.toNat) a + 1 ≤ (a + 1) * 256 ^ l.length := by
  induction l with
  | nil => intro a; simp
  | cons c l ih =>
    intro a
    have h := ih (a * 256 + c.toNat)
    have hc := c.toNat_lt
    rw [List.foldl_cons, List.length_cons, Nat.pow_succ]
    refine Nat.le_trans h ?_
    rw [Nat.mul_comm (256 ^ l.length), ← Nat.mul_assoc]
    exact Nat.mul_le_mul_right _ (by omega)
theorem val_lt (l : List UInt8) : val l < 256 ^ l.length := by
  have := val_fold l 0
  unfold val
  omega
theorem take_snoc (s : List UInt8) (j : Nat) (h : j < s.length) : s.take (j + 1) = s.take j ++ [s.getD j 0] := by
  rw [List.take_succ_eq_append_getElem h]
  simp [List.getD, h]

theorem or_byte (v : Nat) (c : UInt8) (h : v < 72057594037927936) : Value.int .u64 (bits .or .u64 ((v : Int) * 256) (IntKind.u64.wrap (c.toNat : Int))) = .int .u64 ((v * 256 + c.toNat : Nat) : Int) := by
  have hc := c.toNat_lt
  have e : IntKind.u64.wrap (c.toNat : Int) = (c.toNat : Int) := by simp [IntKind.wrap, IntKind.signed, IntKind.bits]; omega
  rw [e, show (v : Int) * 256 = ((v * 256 : Nat) : Int) by simp, u64_or_nat _ _ (by omega) (by omega)]
  have := Nat.two_pow_add_eq_or_of_lt (i := 8) (b := c.toNat) (by omega) v
  rw [show v * 256 = 2 ^ 8 * v by omega, ← this]

theorem rnumber_arg (v : Value) (k : Int) (w : World) (h : k < 1 ∨ 8 < k) :
    Calls Try.prog 20 #[v, .int .i64 k] w fun r w' => r = .returned (.tuple #[.int .u64 0, .int .i64 1]) ∧ w = w' := by
  rcases h with h | h
  all_goals
    go_enter Try.func20, Try.ntmps20
    go_wp2
    go_ret2
    exact ⟨rfl, rfl⟩

set_option maxHeartbeats 1000000 in
theorem rnumber_ok (p : Nat) (s : List UInt8) (k : Nat) (w : World) (h : Rd w p s) (hs : s.length ≤ 1000000000000) (hk1 : 1 ≤ k) (hk8 : k ≤ 8) (hk : k ≤ s.length) :
    Calls Try.prog 20 #[.pointer (some ⟨p, 0, none⟩), .int .i64 k] w fun r w' => r = .returned (.tuple #[.int .u64 (val (s.take k)), .int .i64 0]) ∧ Rd w' p (s.drop k) ∧ Only p w w' := by
  have hcv := fun (wx : World) (b : ByteArray) => Lib.run_convert_string_bytes (P := Try.prog) wx 9 24 5 b Try.underlying9 Try.underlying24 Try.underlying5
  obtain ⟨T, hT⟩ : ∃ T, T = s.take k := ⟨_, rfl⟩
  have hTl : T.length = k := by rw [hT, List.length_take]; omega
  have hsz : (bstr T).size = k := by rw [bstr_size, hTl]
  rw [← hT]
  have HT := Lib.hid hT
  have HL := Lib.hid hTl
  clear hT hTl
  go_enter Try.func20, Try.ntmps20
  go_wp2_with (go_at_call 30; refine (take_ok p s k _ h hs hk).mono ?_; rintro e w1 ⟨rfl, hR1, hO1⟩; rw [← HT.out])
  go_loop [4, 24, 8] (fun n i _ => ∃ j : Nat, j ≤ k ∧ i = .int .i64 j ∧ n = .int .u64 (val (T.take j))) (fun _ i _ => k - (intOf i).toNat)
  case atStart => exact ⟨0, Nat.zero_le _, rfl, by simp [val]⟩
  case round =>
    obtain ⟨j, hj, rfl, rfl⟩ := hrel
    by_cases hlt : j < k
    · have hcell := Lib.bytesWorld_cell w1 5 (bstr T) j (by omega)
      obtain ⟨c, hc⟩ : ∃ c : UInt8, c = T.getD j 0 := ⟨_, rfl⟩
      have hcc : (bstr T).data.toList.getD j 0 = c := hc.symm
      rw [hcc] at hcell
      obtain ⟨v, hv⟩ : ∃ v, v = val (T.take j) := ⟨_, rfl⟩
      have hv1 : v < 256 ^ 7 := by
        rw [hv]
        refine Nat.lt_of_lt_of_le (val_lt _) (Nat.pow_le_pow_right (by decide) ?_)
        rw [List.length_take]; omega
      have hv2 : v < 72057594037927936 := by simpa using hv1
      rw [← hv]
      have HV := Lib.hid hv
      have HC := Lib.hid hc
      clear hv hc hcc hv1
      go_wp2
      go_round
      case rel =>
        refine ⟨j + 1, by omega, by go_num, ?_⟩
        rw [or_byte v c hv2, take_snoc T j (by have := HL.out; omega), val_snoc, ← HC.out, ← HV.out]
      case measure => simp [intOf]; omega
    · obtain rfl : j = k := by omega
      go_wp2
      go_ret2
      have e : T.take j = T := List.take_of_length_le (by have := HL.out; omega)
      rw [e]
      exact ⟨rfl, hR1.keep (Chgd.refl (fun _ => False) _ |>.bytes _ _) (fun h => h), hO1.bytes _ _⟩
end Go.Proofs.Ytkgmjphdocmodaa.Octet
