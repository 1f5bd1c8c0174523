/- The contracts of octet's Writer. -/
import Derived.Test.YtkgmjphdocmodaaOctet0
import Derived.Test.YtkgmjphdocmodaaShelf
import Derived.WalkSpells
import Derived.WalkLawsBesides
namespace Go.Proofs.Ytkgmjphdocmodaa.Octet
open Go.RowKit Go.Proofs.Ytkgmjphdocmodaa.Mem

theorem info_byte : (Try.prog.info? 5).map (fun i => (i.zero, i.size, i.bytes)) = some (some (.int .u8 0), 1, 1) := by kernel_rfl

theorem len64 (n : Nat) (w : World) (h : n < 18446744073709551616) :
    Calls Try.prog 28 #[.int .u64 n] w fun r w' => r = .returned (.int .i64 (Lib.bitLen n)) ∧ w = w' :=
  (Try.bits_Len64 n w (by omega) (by omega)).mono fun _ _ h => ⟨by rw [h.1, Int.toNat_natCast], h.2.symm⟩

theorem byte_shift (n q : Nat) (_h : n < 18446744073709551616) : IntKind.u8.wrap ((n : Int) / 2 ^ (8 * (q : Int)).toNat) = ((UInt8.ofNat (n / 256 ^ q)).toNat : Int) := by
  have e : (8 * (q : Int)).toNat = 8 * q := by omega
  have e2 : (2 : Int) ^ (8 * q) = ((256 ^ q : Nat) : Int) := by rw [Int.natCast_pow, Int.pow_mul]; rfl
  rw [e, e2]
  simp [IntKind.wrap, IntKind.signed, IntKind.bits]

set_option maxHeartbeats 1000000 in
theorem number_ok (p o : Nat) (g : Option Nat) (l : List UInt8) (n : Nat) (k : Nat) (w : World) (hW : Wr w p o g l) (hl : l.length ≤ 1000000000000) (hk1 : 1 ≤ k) (hk8 : k ≤ 8) (hn : n < 256 ^ k) (hn64 : n < 18446744073709551616) :
    Calls Try.prog 9 #[.pointer (some ⟨p, o, none⟩), .int .u64 n, .int .i64 k] w fun r w' => r = .returned (.int .i64 0) ∧ ∃ g', Wrote w w' p o g g' ∧ Wr w' p o g' (l ++ be k n) := by
  obtain ⟨i0, hi, hz0, hz1, hz2⟩ := info_parts info_byte
  have hfit := (fits_iff n k hk8 (by simpa using hn64)).2 hn
  obtain ⟨b, hb⟩ : ∃ b, b = Lib.bitLen n := ⟨_, rfl⟩
  rw [← hb] at hfit
  have HB := Lib.hid hb
  clear hb hn
  go_enter Try.func9, Try.ntmps9
  go_wp2_with (go_at_call 28; refine (len64 _ _ (by omega)).mono ?_; rintro e w' ⟨rfl, rfl⟩; rw [← HB.out])
  go_loopw [7] (fun i wr => ∃ j : Nat, j ≤ k ∧ i = .int .i64 ((k : Int) - 1 - j) ∧ ∃ g', Wrote w wr p o g g' ∧ Wr wr p o g' (l ++ beTo k n j)) (fun i _ => (intOf i + 1).toNat)
  case atStart => exact ⟨0, Nat.zero_le _, by simp, g, Wrote.refl _ _ _ _, by simpa [beTo] using hW⟩
  case round =>
    obtain ⟨j, hj, rfl, g', hwr, hWr⟩ := hrel
    by_cases hlt : j < k
    · obtain ⟨q, hq⟩ : ∃ q : Nat, q = k - 1 - j := ⟨_, rfl⟩
      have e : (k : Int) - 1 - j = q := by omega
      rw [e]
      have hq7 : q ≤ 7 := by omega
      have HQ := Lib.hid hq
      clear hq e
      obtain ⟨L, hLe⟩ : ∃ L, L = l ++ beTo k n j := ⟨_, rfl⟩
      rw [← hLe] at hWr
      have hL1 : L.length ≤ 2000000000000 := by rw [hLe, List.length_append, beTo_length]; omega
      have HL := Lib.hid hLe
      clear hLe
      obtain ⟨ao, cap, hc, hf, hR, hne⟩ := hWr
      have h8 : IntKind.i64.wrap (8 * (q : Int)) = 8 * q := IntWalk.i64_in _ (by omega)
      have h80 : (0 : Int) ≤ 8 * q := by omega
      go_wp2
      have hpl := block_lt hc
      go_region_law (refine step_app1 rfl (.tmp 31) (.tmp 37) 24 rfl 5 i0 (.int .u8 0) 1 Try.underlying24 hi hz0 hz1 hz2 rfl ao L.length cap (cellsOf L) g' (by simp [Act.eval]) (hR.keep (((Chgd.refl (fun _ => False) _).drew).alloc _) (fun _ _ h => h)) wr.heap.size _ _ (by simp [Act.eval]) (MapKept.heap_alloc _ _).1 rfl (by unfold maxLen; omega) (by omega) ?_; intro ao1 cap1 g1 w1 hR1 hch hg1; obtain ⟨ht, hg2⟩ := from_alloc hch hg1; clear hch hg1; have k1 := ht.at_ hc hne; have k2 := (ht.frozen (p := ⟨p, o, none⟩) hpl hne).trans hf)
      all_goals
        go_wp2
        go_roundw
        case rel =>
          have hs := Wr.stored (p := p) (o := o) (l2 := L ++ [UInt8.ofNat (n / 256 ^ q)]) ⟨ao, cap, hc, hf, hR, hne⟩ ht hR1 (by rw [cellsOf_append]; simp only [cellsOf, List.map_cons, List.map_nil]; rw [byte_shift n q hn64]) (by simp) hg2
          refine ⟨j + 1, by omega, by have := HQ.out; go_num, g1, hwr.trans hs.1, ?_⟩
          have e := HL.out
          rw [beTo_succ, ← HQ.out, ← List.append_assoc, ← e]
          exact hs.2
        case measure => simp [intOf]
    · obtain rfl : j = k := by omega
      go_wp2
      go_ret
      exact ⟨rfl, g', hwr, hWr⟩

theorem number_no (v : Value) (n : Nat) (k : Int) (w : World) (hn64 : n < 18446744073709551616) (h : k < 1 ∨ 8 < k ∨ (1 ≤ k ∧ k ≤ 8 ∧ 256 ^ k.toNat ≤ n)) :
    Calls Try.prog 9 #[v, .int .u64 n, .int .i64 k] w fun r w' => r = .returned (.int .i64 1) ∧ w = w' := by
  rcases h with h | h | ⟨h1, h8, h⟩
  · go_enter Try.func9, Try.ntmps9
    go_wp2
    go_ret
    exact ⟨rfl, rfl⟩
  · go_enter Try.func9, Try.ntmps9
    go_wp2
    go_ret
    exact ⟨rfl, rfl⟩
  · obtain ⟨q, rfl⟩ := Int.eq_ofNat_of_zero_le (show 0 ≤ k by omega)
    rw [Int.toNat_natCast] at h
    have hfit : ¬ Lib.bitLen n ≤ 8 * q := fun hh => by
      have := (fits_iff n q (by omega) (by simpa using hn64)).1 hh
      omega
    obtain ⟨b, hb⟩ : ∃ b, b = Lib.bitLen n := ⟨_, rfl⟩
    rw [← hb] at hfit
    have HB := Lib.hid hb
    clear hb h
    go_enter Try.func9, Try.ntmps9
    go_wp2_with (go_at_call 28; refine (len64 _ _ (by omega)).mono ?_; rintro e w' ⟨rfl, rfl⟩; rw [← HB.out])
    go_ret
    exact ⟨rfl, rfl⟩

/-- A hash as a value: an array of its bytes. -/
def hashV (h : List UInt8) : Value := .agg (cellsOf h).toArray

set_option maxHeartbeats 1000000 in
theorem hash_any (p o : Nat) (g : Option Nat) (l : List UInt8) (h : List UInt8) (w : World) (hW : Wr w p o g l) (hl : l.length ≤ 1000000000000) (hh : h.length = 32) :
    Calls Try.prog 13 #[.pointer (some ⟨p, o, none⟩), hashV h] w fun r w' => r = .returned (.tuple #[]) ∧ ∃ g', Wrote w w' p o g g' ∧ Wr w' p o g' (l ++ h) := by
  obtain ⟨i0, hi, hz0, hz1, hz2⟩ := info_parts info_byte
  have hh2 : 32 ≤ h.length ∧ h.length ≤ 32 := by omega
  have HH := Lib.hid hh
  clear hh
  have hW' := hW
  obtain ⟨ao, cap, hc, hf, hR, hne⟩ := hW
  have hpl := block_lt hc
  obtain ⟨hv, hve⟩ : ∃ hv, hv = (cellsOf h).toArray := ⟨_, rfl⟩
  unfold hashV
  rw [← hve]
  have hblk := Lib.hid (show (w.alloc (.cells hv 34)).heap[w.heap.size]? = some (.cells (cellsOf h).toArray 34 (0, 0)) by rw [← hve]; exact (MapKept.heap_alloc _ _).1)
  clear hve
  go_enter Try.func13, Try.ntmps13
  go_wp2
  go_region_law (refine step_app rfl (.tmp 8) (.tmp 9) 24 rfl 5 i0 (.int .u8 0) 1 1 Try.underlying24 hi hz0 hz1 hz2 rfl (by decide) ao l.length cap (cellsOf l) g (by simp [Act.eval]) (hR.keep (((Chgd.refl (fun _ => False) _).drew).alloc _) (fun _ _ h => h)) ⟨w.heap.size, 0, none⟩ 32 32 (cellsOf h) (by simp [Act.eval]) (by rw [cellsOf_length]; omega) (news_blk hblk.out) (cellsOf_one h) (by unfold maxLen; omega) (by omega) ?_; intro ao1 cap1 g1 w1 hR1 hch hg1; obtain ⟨ht, hg2⟩ := from_alloc hch hg1; clear hch hg1; have k1 := ht.at_ hc hne; have k2 := (ht.frozen (p := ⟨p, o, none⟩) hpl hne).trans hf)
  all_goals
    go_wp2
    go_end0
    have hs := Wr.stored (p := p) (o := o) (l2 := l ++ h) hW' ht hR1 (cellsOf_append l h).symm (by rw [List.length_append, HH.out]) hg2
    exact ⟨rfl, g1, hs.1, hs.2⟩

set_option maxHeartbeats 1000000 in
theorem bytes_any (p o : Nat) (g : Option Nat) (l : List UInt8) (w : World) (hW : Wr w p o g l) :
    Calls Try.prog 11 #[.pointer (some ⟨p, o, none⟩)] w fun r w' => r = .returned (.string (bstr l)) ∧ w = w' := by
  obtain ⟨ao, cap, hc, hf, hR, hne⟩ := hW
  have hcv := hR.to_string Try.underlying24 Try.underlying5 Try.underlying9
  go_enter Try.func11, Try.ntmps11
  go_wp2
  go_ret
  exact ⟨rfl, rfl⟩

set_option maxHeartbeats 1000000 in
theorem text_no (v : Value) (s : ByteArray) (w : World) (hs : 64 < s.size) (hs2 : s.size ≤ 140737488351232) :
    Calls Try.prog 15 #[v, .string s] w fun r w' => r = .returned (.int .i64 12) ∧ w = w' := by
  go_enter Try.func15, Try.ntmps15
  go_wp2
  go_ret
  exact ⟨rfl, rfl⟩

set_option maxHeartbeats 1000000 in
theorem text_ok (p o : Nat) (g : Option Nat) (l : List UInt8) (s : List UInt8) (w : World) (hW : Wr w p o g l) (hl : l.length ≤ 1000000000000) (hs : s.length ≤ 64) :
    Calls Try.prog 15 #[.pointer (some ⟨p, o, none⟩), .string (bstr s)] w fun r w' => r = .returned (.int .i64 0) ∧ ∃ g', Wrote w w' p o g g' ∧ Wr w' p o g' (l ++ UInt8.ofNat s.length :: s) := by
  obtain ⟨i0, hi, hz0, hz1, hz2⟩ := info_parts info_byte
  have hW' := hW
  obtain ⟨ao, cap, hc, hf, hR, hne⟩ := hW
  have hpl := block_lt hc
  have hsz := bstr_size s
  obtain ⟨b, hb⟩ : ∃ b, b = bstr s := ⟨_, rfl⟩
  rw [← hb] at hsz ⊢
  have hb1 : b.size ≤ 64 := by omega
  have HS := Lib.hid hsz
  have HB := Lib.hid hb
  clear hsz hb
  go_enter Try.func15, Try.ntmps15
  go_wp2_with (first | (at_builtin; refine wpList_app1 rfl (.tmp 12) (.tmp 16) 24 rfl 5 i0 (.int .u8 0) 1 Try.underlying24 hi hz0 hz1 hz2 rfl ao l.length cap (cellsOf l) g rfl (hR.keep ((Chgd.refl (fun _ => False) _).alloc _) (fun _ _ h => h)) w.heap.size _ _ rfl (MapKept.heap_alloc _ _).1 rfl (by unfold maxLen; omega) (by omega) ?_; intro ao1 cap1 g1 w1 hR1 hch hg1; obtain ⟨ht, hg2⟩ := from_alloc' hch hg1; clear hch hg1; have k1 := ht.at_ hc hne; have k2 := (ht.frozen (p := ⟨p, o, none⟩) hpl hne).trans hf) | (at_builtin; refine wpList_app_str rfl (.tmp 17) (.tmp 18) 24 9 rfl 5 i0 Try.underlying24 Try.underlying9 hi hz0 hz1 hz2 ao1 (l.length + 1) cap1 _ g1 rfl hR1 b rfl (by unfold maxLen; omega) (by omega) ?_; intro ao3 cap3 g3 w3 hR3 hch hg3; obtain ⟨ht3, hg4⟩ := two_rows ht hg2 hch hg3; clear hch hg3 k1 k2; have k1 := ht3.at_ hc hne; have k2 := (ht3.frozen (p := ⟨p, o, none⟩) hpl hne).trans hf))
  go_ret
  have hs := Wr.stored (p := p) (o := o) (l2 := l ++ UInt8.ofNat s.length :: s) hW' ht3 hR3 (by
    have e : (b.size : Int) = (UInt8.ofNat s.length).toNat := by rw [HS.out]; simp; omega
    rw [e, HB.out]
    simp [cellsOf, Lib.strCells, bstr]) (by rw [HB.out, bstr_size]; simp; omega) hg4
  exact ⟨rfl, g3, hs.1, hs.2⟩
end Go.Proofs.Ytkgmjphdocmodaa.Octet
