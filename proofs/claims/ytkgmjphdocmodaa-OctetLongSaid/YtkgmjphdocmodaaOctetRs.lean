/- The reference's reader of layer 1: Hash and Text. -/
import Derived.Test.YtkgmjphdocmodaaOctetRr
namespace Go.Proofs.Ytkgmjphdocmodaa.Octet
open Go.RowKit Go.Proofs.Ytkgmjphdocmodaa.Mem

set_option maxHeartbeats 1000000 in
theorem refhash_ok (p : Nat) (s : List UInt8) (w : World) (h : Rd w p s) (hs : s.length ≤ 1000000000000) (hk : 32 ≤ s.length) :
    Calls Try.prog 23 #[.pointer (some ⟨p, 0, none⟩)] w fun r w' => r = .returned (.tuple #[.agg (cellsOf (s.take 32)).toArray, .int .i64 0]) ∧ Rd w' p (s.drop 32) ∧ Only p w w' := by
  have hlt := h.lt
  have hne : ¬ p = w.heap.size := by omega
  have hne1 : ¬ p = w.heap.size + 1 := by omega
  obtain ⟨b, hb⟩ : ∃ b, b = bstr s := ⟨_, rfl⟩
  have e2 : b.extract 32 b.size = bstr (s.drop 32) := by rw [hb]; exact extract_drop _ _
  have hsz : b.size = s.length := by rw [hb, bstr_size]
  have hb1 : 32 ≤ b.size := by omega
  have hb2 : b.size ≤ 1000000000000 := by omega
  have hget : ∀ j, ∀ h : j < b.size, b[j]'h = s.getD j 0 := by rw [hb]; exact fun j h => get_byte s j h
  have HB := Lib.hid hb
  have HG := Lib.hid hget
  have E2 := Lib.hid e2
  have HL := Lib.hid hsz
  have hK := Lib.hid hk
  clear hb e2 hsz hs hget hk
  have hcw : w.cell? ⟨p, 0, none⟩ = some (.string b) := by rw [HB.out]; exact h.1
  go_enter Try.func23, Try.ntmps23
  go_wp2_with (refine wpList_store_agg rfl 34 (.tmp 4) (.tmp 6) rfl (w.heap.size + 1) 0 (cellsOf zeros32).toArray rfl rfl (two_zero w 34).1 size_hash zeros_all ?_; intro w1 r1 t1 _ c1; have hO1 : OnlyNew w w1 := (((Chgd.refl _ w).alloc _).alloc _).trans c1 (fun j hj e => by omega); have k1 := hO1.at_ hcw (fun h => h); have k2 := (hO1.frozen (p := ⟨p, 0, none⟩) hlt (fun h => h)).trans h.2; have hth : w1.there w.heap.size 0 32 := there.keep (two_zero w 34).2 c1 (by omega); have hF := Filled.start s r1 (t1 0 32 (two_zero w 34).1); clear r1 t1 c1)
  go_loopw [5] (fun i wr => ∃ j : Nat, j ≤ 32 ∧ i = .int .i64 j ∧ OnlyNew w wr ∧ Filled wr (w.heap.size + 1) s j ∧ wr.there w.heap.size 0 32) (fun i _ => 32 - (intOf i).toNat)
  case atStart => exact ⟨0, Nat.zero_le _, rfl, hO1, hF, hth⟩
  case round =>
    clear hO1 hF hth k1 k2
    obtain ⟨j, hj, rfl, hO, hF, hth⟩ := hrel
    have k1 := hO.at_ hcw (fun h => h)
    have k2 := (hO.frozen (p := ⟨p, 0, none⟩) hlt (fun h => h)).trans h.2
    by_cases hlt2 : j < 32
    · have hjb : j < b.size := by omega
      obtain ⟨c, hcc⟩ : ∃ c : UInt8, c = s.getD j 0 := ⟨_, rfl⟩
      have hbj : b[j]'hjb = c := by rw [HG.out j hjb, hcc]
      obtain ⟨f1, f2⟩ := hF j hlt2
      rw [if_neg (by omega)] at f1
      have hstep := hF.step
      rw [← hcc] at hstep
      have HS := Lib.hid hstep
      clear hcc hstep
      go_wp2
      go_roundw
      case rel =>
        refine ⟨j + 1, by omega, by go_num, hO.setCell (p := ⟨w.heap.size + 1, j, none⟩) (fun h => by simp at h; omega) _, HS.out, ?_⟩
        exact there.keep hth ((Chgd.refl (fun k => k = w.heap.size + 1) _).setCell (p := ⟨w.heap.size + 1, j, none⟩) (fun _ => rfl) _) (by omega)
      case measure => simp [intOf]; omega
    · obtain rfl : j = 32 := by omega
      have hr := hF.range hK.out
      have hcl := Lib.hid (show (cellsOf (s.take 32)).length = 32 by rw [cellsOf_length, List.length_take]; have := hK.out; omega)
      obtain ⟨T, hT⟩ : ∃ T, T = s.take 32 := ⟨_, rfl⟩
      rw [← hT] at hr hcl
      have HT := Lib.hid hT
      clear hT
      have cs : Chgd (fun k => k = p) wr (wr.setCell ⟨p, 0, none⟩ (.string (b.extract 32 b.size))) := (Chgd.refl (fun k => k = p) wr).setCell (p := ⟨p, 0, none⟩) (fun _ => rfl) _
      have hr2 := rangeAt.keep hr cs (by omega)
      have ht2 := there.keep hth cs (by omega)
      have HC := Lib.hid (⟨cs, hO, k1, k2⟩ : _ ∧ _ ∧ _ ∧ _)
      clear cs hF hr hth hO
      go_wp2_with (first
        | (refine wpList_load_mid rfl 34 (.tmp 4) rfl (w.heap.size + 1) 0 rfl (cellsOf T) _ hr2 Try.underlying34 rfl (by rw [hcl.out]; exact size_hash) ?_)
        | (refine wpList_store_agg rfl 34 (.tmp 2) (.tmp 34) rfl w.heap.size 0 (cellsOf T).toArray rfl rfl (by simpa [hcl.out] using ht2) (by simpa [hcl.out] using size_hash) (by simpa using cellsOf_one T) ?_; intro w3 r3 _ _ c3))
      obtain ⟨cs, hO, k1, k2⟩ := HC.out
      have hR2 := Rd.set (w := wr) (p := p) (s := s) (t := s.drop 32) ⟨by rw [← HB.out]; exact k1, k2⟩
      rw [← E2.out] at hR2
      have hR3 := hR2.1.keep c3 (by omega)
      have hO3 : Only p w w3 := ((hO.mono (fun _ _ h => h.elim)).trans hR2.2 (fun _ _ h => h)).trans c3 (fun j hj e => by omega)
      rw [← HT.out]
      refine bodyPost_ret (v := .tuple #[.agg (cellsOf T).toArray, .int .i64 0]) ?_ rfl ⟨rfl, hR3, hO3⟩
      exact results_cell_mid_tmp (p := 2) (u := 3) (ty := 34) rfl _ w3 w.heap.size 0 (cellsOf T) _ rfl (by simpa using r3) Try.underlying34 rfl (by rw [hcl.out]; exact size_hash)

set_option maxHeartbeats 1000000 in
theorem refhash_short (p : Nat) (s : List UInt8) (w : World) (h : Rd w p s) (hk : s.length < 32) :
    Calls Try.prog 23 #[.pointer (some ⟨p, 0, none⟩)] w fun r w' => r = .returned (.tuple #[.agg (cellsOf zeros32).toArray, .int .i64 10]) ∧ OnlyNew w w' := by
  have hlt := h.lt
  have hne : ¬ p = w.heap.size := by omega
  have hne1 : ¬ p = w.heap.size + 1 := by omega
  have hcw := h.1
  have hsz := bstr_size s
  obtain ⟨b, hb⟩ : ∃ b, b = bstr s := ⟨_, rfl⟩
  rw [← hb] at hcw hsz
  have hb1 : b.size < 32 := by omega
  clear hsz hb
  obtain ⟨Z, hZ⟩ : ∃ Z, Z = zeros32 := ⟨_, rfl⟩
  have hcl := Lib.hid (show (cellsOf Z).length = 32 by rw [hZ]; rfl)
  have HZ := Lib.hid hZ
  rw [← hZ]
  go_enter Try.func23, Try.ntmps23
  go_wp2_with (first
    | (refine wpList_store_agg rfl 34 (.tmp 4) (.tmp 6) rfl (w.heap.size + 1) 0 (cellsOf zeros32).toArray rfl rfl (two_zero w 34).1 size_hash zeros_all ?_; intro w1 r1 t1 _ c1; have hO1 : OnlyNew w w1 := (((Chgd.refl _ w).alloc _).alloc _).trans c1 (fun j hj e => by omega); have k1 := hO1.at_ hcw (fun h => h); have hth : w1.there w.heap.size 0 32 := there.keep (two_zero w 34).2 c1 (by omega); have hr2 : w1.rangeAt (w.heap.size + 1) 0 (cellsOf Z) := (by rw [HZ.out]; simpa using r1); clear r1 t1 c1)
    | (refine wpList_load_mid rfl 34 (.tmp 4) rfl (w.heap.size + 1) 0 rfl (cellsOf Z) _ hr2 Try.underlying34 rfl (by rw [hcl.out]; exact size_hash) ?_)
    | (refine wpList_store_agg rfl 34 (.tmp 2) (.tmp 13) rfl w.heap.size 0 (cellsOf Z).toArray rfl rfl (by simpa [hcl.out] using hth) (by simpa [hcl.out] using size_hash) (by simpa using cellsOf_one Z) ?_; intro w3 r3 _ _ c3))
  have hO3 : OnlyNew w w3 := hO1.trans c3 (fun j hj e => by omega)
  refine bodyPost_ret (v := .tuple #[.agg (cellsOf Z).toArray, .int .i64 10]) ?_ rfl ⟨by rw [HZ.out], hO3⟩
  exact results_cell_mid_tmp (p := 2) (u := 3) (ty := 34) rfl _ w3 w.heap.size 0 (cellsOf Z) _ rfl (by simpa using r3) Try.underlying34 rfl (by rw [hcl.out]; exact size_hash)

theorem reftext_empty (p : Nat) (w : World) (h : Rd w p []) :
    Calls Try.prog 24 #[.pointer (some ⟨p, 0, none⟩)] w fun r w' => r = .returned (.tuple #[.string ⟨#[]⟩, .int .i64 10]) ∧ w = w' := by
  obtain ⟨hc, hf⟩ := h
  have e := bstr_size ([] : List UInt8)
  simp only [List.length_nil] at e
  go_enter Try.func24, Try.ntmps24
  go_wp2
  go_ret2
  exact ⟨rfl, rfl⟩

theorem reftext_wide (p : Nat) (c : UInt8) (t : List UInt8) (w : World) (h : Rd w p (c :: t)) (h1 : 64 < c.toNat) :
    Calls Try.prog 24 #[.pointer (some ⟨p, 0, none⟩)] w fun r w' => r = .returned (.tuple #[.string ⟨#[]⟩, .int .i64 12]) ∧ w = w' := by
  obtain ⟨hc, hf⟩ := h
  have e := bstr_size (c :: t)
  simp only [List.length_cons] at e
  have hpos : 0 < (bstr (c :: t)).size := by omega
  have hb : (bstr (c :: t))[0]'hpos = c := rfl
  have hc256 := c.toNat_lt
  go_enter Try.func24, Try.ntmps24
  go_wp2
  go_ret2
  exact ⟨rfl, rfl⟩

theorem reftext_short (p : Nat) (c : UInt8) (t : List UInt8) (w : World) (h : Rd w p (c :: t)) (hs : t.length ≤ 100000000000) (h1 : c.toNat ≤ 64) (hk : t.length < c.toNat) :
    Calls Try.prog 24 #[.pointer (some ⟨p, 0, none⟩)] w fun r w' => r = .returned (.tuple #[.string ⟨#[]⟩, .int .i64 10]) ∧ w = w' := by
  obtain ⟨hc, hf⟩ := h
  have hc256 := c.toNat_lt
  obtain ⟨b, hbe⟩ : ∃ b, b = bstr (c :: t) := ⟨_, rfl⟩
  have e : b.size = t.length + 1 := by rw [hbe, bstr_size]; rfl
  have hpos : 0 < b.size := by omega
  have hb : b[0]'hpos = c := by subst hbe; rfl
  rw [← hbe] at hc
  clear hbe
  go_enter Try.func24, Try.ntmps24
  go_wp2
  go_ret2
  exact ⟨rfl, rfl⟩

theorem extract_mid (s : List UInt8) (i j : Nat) : (bstr s).extract i j = bstr ((s.take j).drop i) := by
  apply ByteArray.ext
  simp [bstr, ByteArray.data_extract]
  rw [List.drop_take]

theorem reftext_ok (p : Nat) (c : UInt8) (t : List UInt8) (w : World) (h : Rd w p (c :: t)) (hs : t.length ≤ 100000000000) (h1 : c.toNat ≤ 64) (hk : c.toNat ≤ t.length) :
    Calls Try.prog 24 #[.pointer (some ⟨p, 0, none⟩)] w fun r w' => r = .returned (.tuple #[.string (bstr (t.take c.toNat)), .int .i64 0]) ∧ Rd w' p (t.drop c.toNat) ∧ Only p w w' := by
  have hR := h
  obtain ⟨hc, hf⟩ := h
  have hc256 := c.toNat_lt
  obtain ⟨b, hbe⟩ : ∃ b, b = bstr (c :: t) := ⟨_, rfl⟩
  have e : b.size = t.length + 1 := by rw [hbe, bstr_size]; rfl
  have hpos : 0 < b.size := by omega
  have hb : b[0]'hpos = c := by subst hbe; rfl
  have e1 : b.extract 1 (1 + c.toNat) = bstr (t.take c.toNat) := by rw [hbe, extract_mid, Nat.add_comm]; rfl
  have e2 : b.extract (1 + c.toNat) b.size = bstr (t.drop c.toNat) := by rw [hbe, extract_drop, Nat.add_comm]; rfl
  have E1 := Lib.hid e1
  have E2 := Lib.hid e2
  rw [← hbe] at hc
  clear hbe e1 e2
  have hw := hR.set (t := t.drop c.toNat)
  rw [← E1.out]
  go_enter Try.func24, Try.ntmps24
  go_wp2
  go_ret2
  rw [← E2.out, e] at hw
  exact ⟨rfl, hw.1, hw.2⟩

theorem reftext_any (p : Nat) (s : List UInt8) (w : World) (h : Rd w p s) (hs : s.length ≤ 100000000000) :
    Calls Try.prog 24 #[.pointer (some ⟨p, 0, none⟩)] w fun r w' => r = .returned (.tuple #[.string (bstr (textOf s).1), .int .i64 (textOf s).2.1]) ∧ Rd w' p (textOf s).2.2 ∧ Only p w w' := by
  cases s with
  | nil => exact (reftext_empty p w h).mono fun r w' ⟨hr, hw⟩ => ⟨hr, hw ▸ h, hw ▸ Chgd.refl _ _⟩
  | cons c t =>
    simp only [List.length_cons] at hs
    rw [textOf_cons]
    by_cases h1 : 64 < c.toNat
    · rw [if_pos h1]
      exact (reftext_wide p c t w h h1).mono fun r w' ⟨hr, hw⟩ => ⟨hr, hw ▸ h, hw ▸ Chgd.refl _ _⟩
    · rw [if_neg h1]
      by_cases h2 : t.length < c.toNat
      · rw [if_pos h2]
        exact (reftext_short p c t w h (by omega) (by omega) h2).mono fun r w' ⟨hr, hw⟩ => ⟨hr, hw ▸ h, hw ▸ Chgd.refl _ _⟩
      · rw [if_neg h2]
        exact reftext_ok p c t w h (by omega) (by omega) (by omega)

theorem refnumber_any (p : Nat) (s : List UInt8) (k : Int) (w : World) (h : Rd w p s) (hs : s.length ≤ 100000000000) :
    Calls Try.prog 21 #[.pointer (some ⟨p, 0, none⟩), .int .i64 k] w fun r w' => r = .returned (.tuple #[.int .u64 (numOf k s).1, .int .i64 (numOf k s).2.1]) ∧ Rd w' p (numOf k s).2.2 ∧ Only p w w' := by
  unfold numOf
  by_cases h1 : k < 1 ∨ 8 < k
  · rw [if_pos h1]
    exact (refnumber_arg _ k w h1).mono fun r w' ⟨hr, hw⟩ => ⟨hr, hw ▸ h, hw ▸ Chgd.refl _ _⟩
  · rw [if_neg h1]
    obtain ⟨n, rfl⟩ := Int.eq_ofNat_of_zero_le (show 0 ≤ k by omega)
    rw [Int.toNat_natCast]
    by_cases h2 : s.length < n
    · rw [if_pos h2]
      exact (refnumber_short p s n w h (by omega) (by omega) h2).mono fun r w' ⟨hr, hw⟩ => ⟨hr, hw ▸ h, hw ▸ Chgd.refl _ _⟩
    · rw [if_neg h2]
      exact refnumber_ok p s n w h (by omega) (by omega) (by omega) (by omega)

theorem refhash_any (p : Nat) (s : List UInt8) (w : World) (h : Rd w p s) (hs : s.length ≤ 100000000000) :
    Calls Try.prog 23 #[.pointer (some ⟨p, 0, none⟩)] w fun r w' => r = .returned (.tuple #[.agg (cellsOf (hashOf s).1).toArray, .int .i64 (hashOf s).2.1]) ∧ Rd w' p (hashOf s).2.2 ∧ Only p w w' := by
  unfold hashOf
  by_cases h1 : s.length < 32
  · rw [if_pos h1]
    exact (refhash_short p s w h h1).mono fun r w' ⟨hr, hw⟩ => ⟨hr, h.keep hw (fun h => h), hw.mono (fun _ _ h => h.elim)⟩
  · rw [if_neg h1]
    exact refhash_ok p s w h (by omega) (by omega)
end Go.Proofs.Ytkgmjphdocmodaa.Octet
