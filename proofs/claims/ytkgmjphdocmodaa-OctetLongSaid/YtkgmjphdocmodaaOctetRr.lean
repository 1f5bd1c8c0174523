/- The contracts of the reference's reader of layer 1: it answers as octet's. -/
import Derived.Test.YtkgmjphdocmodaaOctetRt
namespace Go.Proofs.Ytkgmjphdocmodaa.Octet
open Go.RowKit Go.Proofs.Ytkgmjphdocmodaa.Mem

theorem refleft (p : Nat) (s : List UInt8) (w : World) (h : Rd w p s) :
    Calls Try.prog 25 #[.pointer (some ⟨p, 0, none⟩)] w fun r w' => r = .returned (.int .i64 s.length) ∧ w = w' := by
  obtain ⟨hc, hf⟩ := h
  have e := bstr_size s
  go_enter Try.func25, Try.ntmps25
  go_wp2
  go_ret
  exact ⟨rfl, rfl⟩

theorem refend (p : Nat) (s : List UInt8) (w : World) (h : Rd w p s) :
    Calls Try.prog 27 #[.pointer (some ⟨p, 0, none⟩)] w fun r w' => r = .returned (.int .i64 (if s = [] then 0 else 11)) ∧ w = w' := by
  obtain ⟨hc, hf⟩ := h
  have e := bstr_size s
  by_cases h0 : s = []
  · rw [if_pos h0]
    subst h0
    simp only [List.length_nil] at e
    go_enter Try.func27, Try.ntmps27
    go_wp2
    go_ret
    exact ⟨rfl, rfl⟩
  · rw [if_neg h0]
    have e0 : 0 < s.length := List.length_pos_iff.2 h0
    clear h0
    go_enter Try.func27, Try.ntmps27
    go_wp2
    go_ret
    exact ⟨rfl, rfl⟩

theorem refnumber_arg (v : Value) (k : Int) (w : World) (h : k < 1 ∨ 8 < k) :
    Calls Try.prog 21 #[v, .int .i64 k] w fun r w' => r = .returned (.tuple #[.int .u64 0, .int .i64 1]) ∧ w = w' := by
  rcases h with h | h
  all_goals
    go_enter Try.func21, Try.ntmps21
    go_wp2
    go_ret2
    exact ⟨rfl, rfl⟩

theorem refnumber_short (p : Nat) (s : List UInt8) (k : Nat) (w : World) (h : Rd w p s) (hk1 : 1 ≤ k) (hk8 : k ≤ 8) (hk : s.length < k) :
    Calls Try.prog 21 #[.pointer (some ⟨p, 0, none⟩), .int .i64 k] w fun r w' => r = .returned (.tuple #[.int .u64 0, .int .i64 10]) ∧ w = w' := by
  obtain ⟨hc, hf⟩ := h
  have e := bstr_size s
  go_enter Try.func21, Try.ntmps21
  go_wp2
  go_ret2
  exact ⟨rfl, rfl⟩

theorem get_byte (s : List UInt8) (j : Nat) (h : j < (bstr s).size) : ((bstr s)[j]'h) = s.getD j 0 := by
  have hl : j < s.length := by rw [bstr_size] at h; exact h
  simp only [List.getD, List.getElem?_eq_getElem hl, Option.getD_some]
  rfl

set_option maxHeartbeats 1000000 in
theorem refnumber_ok (p : Nat) (s : List UInt8) (k : Nat) (w : World) (h : Rd w p s) (hs : s.length ≤ 1000000000000) (hk1 : 1 ≤ k) (hk8 : k ≤ 8) (hk : k ≤ s.length) :
    Calls Try.prog 21 #[.pointer (some ⟨p, 0, none⟩), .int .i64 k] w fun r w' => r = .returned (.tuple #[.int .u64 (val (s.take k)), .int .i64 0]) ∧ Rd w' p (s.drop k) ∧ Only p w w' := by
  have hR := h
  obtain ⟨hc, hf⟩ := h
  obtain ⟨b, hb⟩ : ∃ b, b = bstr s := ⟨_, rfl⟩
  have e2 : b.extract k b.size = bstr (s.drop k) := by rw [hb]; exact extract_drop _ _
  have hsz : b.size = s.length := by rw [hb, bstr_size]
  rw [← hb] at hc
  have hb1 : k ≤ b.size := by omega
  have hb2 : b.size ≤ 1000000000000 := by omega
  have hget : ∀ j, ∀ h : j < b.size, b[j]'h = s.getD j 0 := by rw [hb]; exact fun j h => get_byte s j h
  have HG := Lib.hid hget
  have E2 := Lib.hid e2
  have HL := Lib.hid hsz
  clear hb e2 hsz hs hk hget
  go_enter Try.func21, Try.ntmps21
  go_wp2
  go_loop [6, 7] (fun n i => ∃ j : Nat, j ≤ k ∧ i = .int .i64 j ∧ n = .int .u64 (val (s.take j))) (fun _ i => k - (intOf i).toNat)
  case atStart => exact ⟨0, Nat.zero_le _, rfl, by simp [val]⟩
  case round =>
    obtain ⟨j, hj, rfl, rfl⟩ := hrel
    by_cases hlt : j < k
    · obtain ⟨v, hv⟩ : ∃ v, v = val (s.take j) := ⟨_, rfl⟩
      have hv1 : v < 256 ^ 7 := by
        rw [hv]
        refine Nat.lt_of_lt_of_le (val_lt _) (Nat.pow_le_pow_right (by decide) ?_)
        rw [List.length_take]; omega
      have hv2 : v < 72057594037927936 := by simpa using hv1
      rw [← hv]
      have HV := Lib.hid hv
      have hjb : j < b.size := by omega
      obtain ⟨c, hcc⟩ : ∃ c : UInt8, c = s.getD j 0 := ⟨_, rfl⟩
      have hbj : b[j]'hjb = c := by rw [HG.out j hjb, hcc]
      have HC := Lib.hid hcc
      have hc256 := c.toNat_lt
      clear hv hv1 hcc
      go_wp2
      go_round
      case rel =>
        refine ⟨j + 1, by omega, by go_num, ?_⟩
        rw [take_snoc s j (by have := HL.out; omega), val_snoc, ← HC.out, ← HV.out]
        go_num
      case measure => simp [intOf]; omega
    · obtain rfl : j = k := by omega
      go_wp2
      go_ret2
      have hw := hR.set (t := s.drop j)
      rw [← E2.out] at hw
      exact ⟨rfl, hw.1, hw.2⟩

/-- The first j of 32 cells hold the first bytes of s, the others 0. -/
def Filled (w : World) (B : Nat) (s : List UInt8) (j : Nat) : Prop :=
  ∀ m, m < 32 → w.cell? ⟨B, m, none⟩ = some (.int .u8 (if m < j then s.getD m 0 else 0).toNat) ∧ w.frozen? ⟨B, m, none⟩ = false
theorem Filled.step {w : World} {B : Nat} {s : List UInt8} {j : Nat} (h : Filled w B s j) : Filled (w.setCell ⟨B, j, none⟩ (.int .u8 (s.getD j 0).toNat)) B s (j + 1) := by
  intro m hm
  obtain ⟨h1, h2⟩ := h m hm
  refine ⟨?_, by rw [World.frozen?_setCell]; exact h2⟩
  by_cases e : m = j
  · subst e
    rw [World.cell?_setCell_same _ _ _ h1, if_pos (by omega)]
  · have hne : (⟨B, j, none⟩ : Addr) ≠ ⟨B, m, none⟩ := fun e' => by injection e' with _ e2; exact e e2.symm
    rw [World.cell?_setCell_other _ _ _ _ hne, h1]
    by_cases hlt : m < j
    · rw [if_pos hlt, if_pos (by omega)]
    · rw [if_neg hlt, if_neg (by omega)]
theorem Filled.range {w : World} {B : Nat} {s : List UInt8} (h : Filled w B s 32) (hs : 32 ≤ s.length) : w.rangeAt B 0 (cellsOf (s.take 32)) := by
  intro j v hj
  have hl : j < 32 := by
    have := (List.getElem?_eq_some_iff.1 hj).1
    rw [cellsOf_length, List.length_take] at this; omega
  rw [Nat.zero_add, (h j hl).1, if_pos hl]
  rw [← hj]
  simp [cellsOf, List.getD, hl, show j < s.length by omega]
theorem Filled.start {w : World} {B : Nat} (s : List UInt8) (h : w.rangeAt B 0 (cellsOf zeros32).toArray.toList) (ht : w.there B 0 32) : Filled w B s 0 := by
  intro m hm
  have h1 := h m (.int .u8 0) (by
    have e : zeros32 = List.replicate 32 0 := rfl
    rw [List.toList_toArray, e, cellsOf, List.map_replicate, List.getElem?_replicate_of_lt hm]
    rfl)
  have h2 := (ht m hm).2
  rw [Nat.zero_add] at h1 h2
  rw [if_neg (by omega)]
  exact ⟨h1, h2⟩
theorem two_zero (w : World) (t : TypeId) : ((w.alloc (.cells #[.int .u8 0, .int .u8 0, .int .u8 0, .int .u8 0, .int .u8 0, .int .u8 0, .int .u8 0, .int .u8 0, .int .u8 0, .int .u8 0, .int .u8 0, .int .u8 0, .int .u8 0, .int .u8 0, .int .u8 0, .int .u8 0, .int .u8 0, .int .u8 0, .int .u8 0, .int .u8 0, .int .u8 0, .int .u8 0, .int .u8 0, .int .u8 0, .int .u8 0, .int .u8 0, .int .u8 0, .int .u8 0, .int .u8 0, .int .u8 0, .int .u8 0, .int .u8 0] t)).alloc (.cells #[.int .u8 0, .int .u8 0, .int .u8 0, .int .u8 0, .int .u8 0, .int .u8 0, .int .u8 0, .int .u8 0, .int .u8 0, .int .u8 0, .int .u8 0, .int .u8 0, .int .u8 0, .int .u8 0, .int .u8 0, .int .u8 0, .int .u8 0, .int .u8 0, .int .u8 0, .int .u8 0, .int .u8 0, .int .u8 0, .int .u8 0, .int .u8 0, .int .u8 0, .int .u8 0, .int .u8 0, .int .u8 0, .int .u8 0, .int .u8 0, .int .u8 0, .int .u8 0] t)).there (w.heap.size + 1) 0 32 ∧ ((w.alloc (.cells #[.int .u8 0, .int .u8 0, .int .u8 0, .int .u8 0, .int .u8 0, .int .u8 0, .int .u8 0, .int .u8 0, .int .u8 0, .int .u8 0, .int .u8 0, .int .u8 0, .int .u8 0, .int .u8 0, .int .u8 0, .int .u8 0, .int .u8 0, .int .u8 0, .int .u8 0, .int .u8 0, .int .u8 0, .int .u8 0, .int .u8 0, .int .u8 0, .int .u8 0, .int .u8 0, .int .u8 0, .int .u8 0, .int .u8 0, .int .u8 0, .int .u8 0, .int .u8 0] t)).alloc (.cells #[.int .u8 0, .int .u8 0, .int .u8 0, .int .u8 0, .int .u8 0, .int .u8 0, .int .u8 0, .int .u8 0, .int .u8 0, .int .u8 0, .int .u8 0, .int .u8 0, .int .u8 0, .int .u8 0, .int .u8 0, .int .u8 0, .int .u8 0, .int .u8 0, .int .u8 0, .int .u8 0, .int .u8 0, .int .u8 0, .int .u8 0, .int .u8 0, .int .u8 0, .int .u8 0, .int .u8 0, .int .u8 0, .int .u8 0, .int .u8 0, .int .u8 0, .int .u8 0] t)).there w.heap.size 0 32 := by
  rw [← zeros_cells]
  constructor
  · have := there_new (w.alloc (.cells (cellsOf zeros32).toArray t)) (cellsOf zeros32).toArray t
    rw [World.size_alloc] at this
    exact this
  · exact there.keep (there_new w (cellsOf zeros32).toArray t) ((Chgd.refl (fun _ => False) _).alloc _) (fun h => h)
theorem zeros_all : (cellsOf zeros32).toArray.all (·.oneCell') = true := by simpa using cellsOf_one zeros32
theorem Filled.keep {w w' : World} {S : Nat → Prop} {B : Nat} {s : List UInt8} {j : Nat} (h : Filled w B s j) (ht : Chgd S w w') (hb : ¬ S B) : Filled w' B s j := by
  intro m hm
  obtain ⟨h1, h2⟩ := h m hm
  exact ⟨ht.at_ h1 hb, (ht.frozen (p := ⟨B, m, none⟩) (block_lt h1) hb).trans h2⟩

end Go.Proofs.Ytkgmjphdocmodaa.Octet
