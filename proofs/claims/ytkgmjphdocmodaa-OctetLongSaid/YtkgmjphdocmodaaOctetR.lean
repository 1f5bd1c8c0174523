/- The contracts of the reference's writing functions of layer 1. -/
import Derived.Test.YtkgmjphdocmodaaOctet0
import Derived.WalkSpells
import Derived.WalkLawsBesides
namespace Go.Proofs.Ytkgmjphdocmodaa.Octet
open Go.RowKit Go.Proofs.Ytkgmjphdocmodaa.Mem

/-- What a number's bytes are, or the error. -/
def NumEnd (n k : Nat) (r : Ending) : Prop := if n < 256 ^ k then r = .returned (.tuple #[.string (bstr (be k n)), .int .i64 0]) else r = .returned (.tuple #[.string ⟨#[]⟩, .int .i64 1])
theorem NumEnd.yes {n k : Nat} {r : Ending} (h : n < 256 ^ k) (e : r = .returned (.tuple #[.string (bstr (be k n)), .int .i64 0])) : NumEnd n k r := by unfold NumEnd; rw [if_pos h]; exact e
theorem NumEnd.no {n k : Nat} {r : Ending} (h : ¬ n < 256 ^ k) (e : r = .returned (.tuple #[.string ⟨#[]⟩, .int .i64 1])) : NumEnd n k r := by unfold NumEnd; rw [if_neg h]; exact e

set_option maxHeartbeats 1000000 in
theorem ref_number (n k : Nat) (w : World) (hk1 : 1 ≤ k) (hk8 : k ≤ 8) (hn64 : n < 18446744073709551616) :
    Calls Try.prog 12 #[.int .u64 n, .int .i64 k] w fun r w' => NumEnd n k r ∧ OnlyNew w w' := by
  have hs1 := fun (wx : World) (u : Int) => str_one (P := Try.prog) (t := 5) Try.underlying24 Try.underlying5 Try.underlying9 wx u
  go_enter Try.func12, Try.ntmps12
  go_wp2
  go_loopw [0, 6, 7] (fun m s i wr => ∃ j : Nat, j ≤ k ∧ i = .int .i64 j ∧ m = .int .u64 ((n / 256 ^ j : Nat) : Int) ∧ s = .string (bstr (be j n)) ∧ OnlyNew w wr) (fun _ _ i _ => k - (intOf i).toNat)
  case atStart => exact ⟨0, Nat.zero_le _, rfl, by simp, rfl, Chgd.refl _ _⟩
  case round =>
    obtain ⟨j, hj, rfl, rfl, rfl, hw⟩ := hrel
    by_cases hlt : j < k
    · obtain ⟨m, hm⟩ : ∃ m, m = n / 256 ^ j := ⟨_, rfl⟩
      obtain ⟨s, hs⟩ : ∃ s, s = bstr (be j n) := ⟨_, rfl⟩
      have hss : s.size ≤ 8 := by rw [hs, bstr_size, be_length]; omega
      have hm64 : m < 18446744073709551616 := by rw [hm]; exact Nat.lt_of_le_of_lt (Nat.div_le_self _ _) hn64
      rw [← hm, ← hs]
      have HM := Lib.hid hm
      have HS := Lib.hid hs
      clear hm hs
      go_wp2
      go_roundw
      case rel =>
        refine ⟨j + 1, by omega, by go_num, ?_, ?_, hw.alloc _⟩
        · rw [HM.out, Nat.pow_succ, ← Nat.div_div_eq_div_mul]; rfl
        · rw [HS.out, be_succ, HM.out]
          exact congrArg Value.string (byte_cons _ _)
      case measure => simp [intOf]; omega
    · obtain rfl : j = k := by omega
      obtain ⟨m, hm⟩ : ∃ m, m = n / 256 ^ j := ⟨_, rfl⟩
      have hm64 : m < 18446744073709551616 := by rw [hm]; exact Nat.lt_of_le_of_lt (Nat.div_le_self _ _) hn64
      have hdiv : n < 256 ^ j ↔ m = 0 := by
        have hp : 0 < 256 ^ j := Nat.pow_pos (by decide)
        rw [hm]
        constructor
        · exact fun h => Nat.div_eq_of_lt h
        · intro h
          rcases (Nat.div_eq_zero_iff).1 h with h | h
          · omega
          · exact h
      rw [← hm]
      have HD := Lib.hid hdiv
      clear hm hdiv
      by_cases h0 : m = 0
      · subst h0
        go_wp2
        go_ret2
        exact ⟨NumEnd.yes (HD.out.2 trivial) rfl, hw⟩
      · have hpos : 0 < m := by omega
        clear h0
        go_wp2
        go_ret2
        exact ⟨NumEnd.no (fun h => by have := HD.out.1 h; omega) rfl, hw⟩

set_option maxHeartbeats 1000000 in
theorem ref_number_no (n : Nat) (k : Int) (w : World) (h : k < 1 ∨ 8 < k) :
    Calls Try.prog 12 #[.int .u64 n, .int .i64 k] w fun r w' => r = .returned (.tuple #[.string ⟨#[]⟩, .int .i64 1]) ∧ w = w' := by
  rcases h with h | h
  all_goals
    go_enter Try.func12, Try.ntmps12
    go_wp2
    go_ret2
    exact ⟨rfl, rfl⟩

/-- A box of an array of bytes, made a string. -/
theorem str_box {P : Program} {src e dst t : TypeId} (hs : P.underlying src = some (.slice e)) (he : P.underlying e = some (.int .u8)) (hd : P.underlying dst = some .string) (w : World) (hv : Array Value) (h : List UInt8) (n : Nat) (hh : hv = (cellsOf h).toArray) (hn : h.length = n) (hm : n ≤ 1000000000) :
    (convert src dst (.slice (some ⟨w.heap.size, 0, none⟩) n n)).run P (w.alloc (.cells hv t)) = .ok (.string (bstr h)) (w.alloc (.cells hv t)) := by
  subst hh hn
  have hR := Srow.new w (cellsOf h).toArray t 1 h.length (by simp [cellsOf]) (by unfold maxLen; omega)
  exact hR.to_string hs he hd

set_option maxHeartbeats 1000000 in
theorem ref_hash (h : List UInt8) (w : World) (hh : h.length = 32) :
    Calls Try.prog 14 #[.agg (cellsOf h).toArray] w fun r w' => r = .returned (.string (bstr h)) ∧ OnlyNew w w' := by
  obtain ⟨hv, hve⟩ : ∃ hv, hv = (cellsOf h).toArray := ⟨_, rfl⟩
  have hs1 := str_box (P := Try.prog) (t := 34) Try.underlying24 Try.underlying5 Try.underlying9 w hv h 32 hve hh (by decide)
  rw [← hve]
  clear hve hh
  go_enter Try.func14, Try.ntmps14
  go_wp2
  go_ret
  exact ⟨rfl, (Chgd.refl _ _).alloc _⟩

set_option maxHeartbeats 1000000 in
theorem ref_text_no (s : ByteArray) (w : World) (hs : 64 < s.size) (hs2 : s.size ≤ 140737488351232) :
    Calls Try.prog 16 #[.string s] w fun r w' => r = .returned (.tuple #[.string ⟨#[]⟩, .int .i64 12]) ∧ w = w' := by
  go_enter Try.func16, Try.ntmps16
  go_wp2
  go_ret2
  exact ⟨rfl, rfl⟩

set_option maxHeartbeats 1000000 in
theorem ref_text_ok (s : List UInt8) (w : World) (hs : s.length ≤ 64) :
    Calls Try.prog 16 #[.string (bstr s)] w fun r w' => r = .returned (.tuple #[.string (bstr (UInt8.ofNat s.length :: s)), .int .i64 0]) ∧ OnlyNew w w' := by
  have hs1 := fun (wx : World) (u : Int) => str_one (P := Try.prog) (t := 5) Try.underlying24 Try.underlying5 Try.underlying9 wx u
  have hsz := bstr_size s
  obtain ⟨b, hb⟩ : ∃ b, b = bstr s := ⟨_, rfl⟩
  rw [← hb] at hsz ⊢
  have hb1 : b.size ≤ 64 := by omega
  have HS := Lib.hid hsz
  have HB := Lib.hid hb
  clear hsz hb
  go_enter Try.func16, Try.ntmps16
  go_wp2
  go_ret2
  refine ⟨ret_str2 ?_, (Chgd.refl _ _).alloc _⟩
  rw [HB.out, bstr_size]
  have := byte_cons s.length s
  rw [show ((s.length : Int) % 256).toNat = s.length by omega] at this
  exact this
end Go.Proofs.Ytkgmjphdocmodaa.Octet
