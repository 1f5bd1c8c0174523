/- OctetWrites's walk. -/
import Derived.Test.YtkgmjphdocmodaaOctetItem
import Derived.StillTailTactics
import Derived.Deep.RegionHeld3
namespace Go.Proofs.Ytkgmjphdocmodaa.Octet
open Go.RowKit Go.Proofs.Ytkgmjphdocmodaa.Mem

set_option maxHeartbeats 1000000 in
theorem writes_long (ao : Option Addr) (n cap : Nat) (w : World) (hn : 100 < n) (hn2 : n ≤ 9223372036854775807) :
    Calls Try.prog 4 #[.slice ao n cap] w fun r w' => r = .returned (.bool true) ∧ OnlyNew w w' := by
  go_enter Try.func4, Try.ntmps4
  go_wp2_with (go_at_call 10; refine (shown_any _).mono ?_; rintro e w1 ⟨rfl, c1⟩)
  go_ret
  exact ⟨rfl, c1⟩

set_option maxRecDepth 8000 in
set_option maxHeartbeats 2000000 in
theorem writes_law (ao : Option Addr) (b off n cap : Nat) (hao : 0 < n → ao = some ⟨b, off, none⟩) (xs : Nat → Item) (w : World) (hn : n ≤ 100) (hx : ∀ i, i < n → ItemAt w b (off + i * 36) (xs i)) :
    Calls Try.prog 4 #[.slice ao n cap] w fun r w' => r = .returned (.bool true) ∧ OnlyNew w w' := by
  have HAO := Lib.hid hao
  clear hao
  go_enter Try.func4, Try.ntmps4
  go_wp2_with (go_at_call 10; refine (shown_any _).mono ?_; rintro e w1 ⟨rfl, c1⟩)
  have HX := Lib.hid hx
  have N1 := NW.fresh w1 26 (w.heap.size) (w1.heap.size)
  have hO := c1.trans ((Chgd.refl (fun _ => False) w1).alloc (.cells #[.slice none 0 0] 26)) (fun _ _ h => h)
  have zz : w.heap.size ≤ w1.heap.size := c1.size
  clear hx c1
  go_loopw [4, 5] (fun s i wr => ∃ j : Nat, j ≤ n ∧ i = .int .i64 j ∧ ∃ L, s = .string (bstr L) ∧ NW (w1.heap.size + 1) wr.heap.size wr w1.heap.size L ∧ OnlyNew w wr ∧ L.length ≤ 100 * j ∧ w1.heap.size + 1 ≤ wr.heap.size) (fun _ i _ => n - (intOf i).toNat)
  case atStart => exact ⟨0, Nat.zero_le _, rfl, [], rfl, NW.fresh w1 _ _ _, hO, by simp, by simp⟩
  case round =>
    clear N1 hO
    obtain ⟨j, hj, rfl, L, rfl, N1, hO, hL, zr⟩ := hrel
    by_cases hlt : j < n
    · have hao := HAO.out (by omega)
      subst hao
      have hx0 := HX.out j hlt
      obtain ⟨x, hxe⟩ : ∃ x, x = xs j := ⟨_, rfl⟩
      rw [← hxe] at hx0
      clear hxe
      have hbw := block_lt hx0.kind
      have hx1 := hx0.keep hO (fun h => h)
      clear hx0
      obtain ⟨i0, i1, i2, i3, i4, k0, k1, k2, hh, hs⟩ := hx1
      obtain ⟨xk, xw, xn, xh, xs'⟩ := x
      simp only at i0 i1 i2 i3 i4 k0 k1 k2 hh hs hbw
      have hsz := bstr_size xs'
      obtain ⟨sb, hsb⟩ : ∃ sb, sb = bstr xs' := ⟨_, rfl⟩
      rw [← hsb] at i4 hsz
      unfold maxLen at hs
      have hsz1 : sb.size ≤ 9223372036854775807 := by omega
      have HS := Lib.hid (⟨hsb, hsz, hs, hh⟩ : _ ∧ _ ∧ _ ∧ _)
      clear hsb hsz hs hh
      have a0 : off + j * 36 = off + j * 36 := rfl
      by_cases h100 : 100 < sb.size
      · go_wp2_with (go_at_call 10; refine (shown_any _).mono ?_; rintro e w2 ⟨rfl, c2⟩)
        go_ret
        exact ⟨rfl, hO.trans c2 (fun _ _ h => h)⟩
      · by_cases c0 : xk = 0
        · subst c0
          go_wp2_with fail
          go_still_tail 11, (by kernel_rfl)
          change wpList _ _ _ _ _ wr.drew
          generalize hdw : wr.drew = w2
          have hd : Chgd (fun _ => False) wr w2 := hdw ▸ (Chgd.refl (fun _ => False) wr).drew
          have N2 := N1.keep hd (fun h => h) (fun _ _ _ h => h)
          have i1' := hd.at_ i1 (fun h => h)
          have i2' := hd.at_ i2 (fun h => h)
          have O2 := hO.trans hd (fun _ _ h => h)
          have z2 : w2.heap.size = wr.heap.size := by rw [← hdw]; rfl
          clear hdw
          clear hd
          go_wp2_with fail
          refine (number_any (w1.heap.size + 1) wr.heap.size _ L xn xw w2 N2 (by omega) (by omega) (by omega) k2).mono ?_
          rintro e w3 ⟨rfl, N3, c3⟩
          replace i1' := c3.at_ i1' (by unfold WS; simp; omega)
          replace i2' := c3.at_ i2' (by unfold WS; simp; omega)
          have O3 := O2.trans c3 (fun j hj h => by unfold WS at h; omega)
          have z3 := c3.size
          clear c3 N2 O2 i1 i2
          go_wp2_with fail
          go_region_held3 (fun w' => w'.cell? ⟨b, off + j * 36 + 2, none⟩ = some (.int .u64 xn) ∧ w'.cell? ⟨b, off + j * 36 + 1, none⟩ = some (.int .i64 xw))
            ((first | go_keep | exact ⟨c5.at_ (i2' : w3.drew.cell? _ = _) (fun h => h), c5.at_ (i1' : w3.drew.cell? _ = _) (fun h => h)⟩))
            ((first | (go_at_call 12; refine (refnum_any xn xw _ k2).mono ?_; rintro e w5 ⟨rfl, c5⟩)))
          have hd := (Chgd.refl (fun _ => False) w3).drew
          have z4 : w3.drew.heap.size = w3.heap.size := rfl
          have N4 := N3.keep hd (fun h => h) (fun _ _ _ h => h)
          have O4 := O3.trans hd (fun _ _ h => h)
          clear i1' i2' N3 O3
          have NN := N4.keep c5 (fun h => h) (fun _ _ _ h => h)
          have OO := O4.trans c5 (fun _ _ h => h)
          have ZZ : w1.heap.size + 1 ≤ w5.heap.size := by have := c5.size; omega
          replace NN := NN.mono (Nat.le_refl _) (by have := c5.size; omega : w3.heap.size ≤ w5.heap.size)
          clear z2 z3 z4
          clear c5 N4 O4
          obtain ⟨⟨T, er⟩, hT⟩ : ∃ q, q = numW xn xw := ⟨_, rfl⟩
          have hTl : T.length ≤ 100 := by
            have := numW_len xn xw
            rw [← hT] at this
            exact Nat.le_trans this (by decide)
          rw [← hT] at NN ⊢
          clear hT
          simp only [] at NN ⊢
          obtain ⟨L2, hL2⟩ : ∃ L2, L2 = L ++ T := ⟨_, rfl⟩
          rw [← hL2] at NN
          have hl2 : L2.length ≤ 100 * (j + 1) := by rw [hL2, List.length_append]; omega
          have hbL := bstr_size L
          have hbT := bstr_size T
          have hap := bstr_append L T
          rw [← hL2] at hap
          obtain ⟨bL, ebL⟩ : ∃ bL, bL = bstr L := ⟨_, rfl⟩
          obtain ⟨bT, ebT⟩ : ∃ bT, bT = bstr T := ⟨_, rfl⟩
          obtain ⟨bL2, ebL2⟩ : ∃ bL2, bL2 = bstr L2 := ⟨_, rfl⟩
          rw [← ebL] at hbL
          rw [← ebT] at hbT
          rw [← ebL, ← ebT, ← ebL2] at hap
          rw [← ebL, ← ebT]
          have s1 : bL.size ≤ 10000 := by omega
          have s2 : bT.size ≤ 100 := by omega
          have heq : (bL2.toList == bL2.toList) = true := beq_self_eq_true _
          have EB := Lib.hid ebL2
          clear hbL hbT ebL ebT ebL2 hL2 a0 zr zz hO N1 hL hbw k0 k1 k2 HX
          go_wp2_with (go_at_call 11; refine (wbytes_any _ _ _ _ _ NN).mono ?_; rintro e w10 ⟨rfl, rfl⟩; rw [← EB.out])
          go_roundw
          case rel => exact ⟨j + 1, by omega, by go_num, L2, by rw [EB.out], NN, OO, hl2, ZZ⟩
          case measure => simp [intOf]; omega
        · have c0' : (xk == 0) = false := by simpa using c0
          by_cases c1 : xk = 1
          · subst c1
            have hszh : (Try.prog.info? 34).map (·.size) = some (cellsOf xh).length := by rw [cellsOf_length, HS.out.2.2.2]; exact size_hash
            obtain ⟨hc, hce⟩ : ∃ hc, hc = cellsOf xh := ⟨_, rfl⟩
            rw [← hce] at hszh i3
            have HC := Lib.hid hce
            clear hce
            go_wp2_with (refine wpList_load_mid rfl 34 _ rfl b (off + j * 36 + 3) rfl hc _ i3 Try.underlying34 rfl hszh ?_)
            have TT := whash_any (w1.heap.size + 1) wr.heap.size _ L xh wr N1 (by omega) (by omega) (by omega) HS.out.2.2.2
            unfold hashV at TT
            rw [← HC.out] at TT
            refine TT.mono ?_
            rintro e w2 ⟨rfl, N2, c2⟩
            replace i3 := rangeAt.keep i3 c2 (by unfold WS; omega)
            have O2 := hO.trans c2 (fun j hj h => by unfold WS at h; omega)
            have z2 := c2.size
            clear c2 TT
            go_wp2_with (refine wpList_load_mid rfl 34 _ rfl b (off + j * 36 + 3) rfl hc _ i3 Try.underlying34 rfl hszh ?_)
            have TT := ref_hash xh w2 HS.out.2.2.2
            rw [← HC.out] at TT
            refine TT.mono ?_
            rintro e w5 ⟨rfl, c5⟩
            have NN := N2.keep c5 (fun h => h) (fun _ _ _ h => h)
            have OO := O2.trans c5 (fun _ _ h => h)
            have ZZ : w1.heap.size + 1 ≤ w5.heap.size := by have := c5.size; omega
            replace NN := NN.mono (Nat.le_refl _) (by have := c5.size; omega : w2.heap.size ≤ w5.heap.size)
            clear z2 c5 N2 O2 TT i3
            obtain ⟨T, hT⟩ : ∃ T, T = xh := ⟨_, rfl⟩
            have hTl : T.length ≤ 100 := by rw [hT, HS.out.2.2.2]; decide
            rw [← hT] at NN ⊢
            clear hT
            obtain ⟨L2, hL2⟩ : ∃ L2, L2 = L ++ T := ⟨_, rfl⟩
            rw [← hL2] at NN
            have hl2 : L2.length ≤ 100 * (j + 1) := by rw [hL2, List.length_append]; omega
            have hbL := bstr_size L
            have hbT := bstr_size T
            have hap := bstr_append L T
            rw [← hL2] at hap
            obtain ⟨bL, ebL⟩ : ∃ bL, bL = bstr L := ⟨_, rfl⟩
            obtain ⟨bT, ebT⟩ : ∃ bT, bT = bstr T := ⟨_, rfl⟩
            obtain ⟨bL2, ebL2⟩ : ∃ bL2, bL2 = bstr L2 := ⟨_, rfl⟩
            rw [← ebL] at hbL
            rw [← ebT] at hbT
            rw [← ebL, ← ebT, ← ebL2] at hap
            rw [← ebL, ← ebT]
            have s1 : bL.size ≤ 10000 := by omega
            have s2 : bT.size ≤ 100 := by omega
            have heq : (bL2.toList == bL2.toList) = true := beq_self_eq_true _
            have EB := Lib.hid ebL2
            clear hbL hbT ebL ebT ebL2 hL2 a0 zr zz hO N1 hL hbw k0 k1 k2 HX
            go_wp2_with (go_at_call 11; refine (wbytes_any _ _ _ _ _ NN).mono ?_; rintro e w10 ⟨rfl, rfl⟩; rw [← EB.out])
            go_roundw
            case rel => exact ⟨j + 1, by omega, by go_num, L2, by rw [EB.out], NN, OO, hl2, ZZ⟩
            case measure => simp [intOf]; omega
          · have c1' : (xk == 1) = false := by simpa using c1
            by_cases c2 : xk = 2
            · subst c2
              go_wp2_with fail
              have TT := text_any (w1.heap.size + 1) wr.heap.size _ L xs' wr N1 (by omega) (by omega) (by omega) (by have := HS.out.2.1; omega)
              rw [← HS.out.1] at TT
              refine TT.mono ?_
              rintro e w2 ⟨rfl, N2, c2⟩
              replace i4 := c2.at_ i4 (by unfold WS; simp; omega)
              have O2 := hO.trans c2 (fun j hj h => by unfold WS at h; omega)
              have z2 := c2.size
              clear c2 TT
              go_wp2_with fail
              have TT := reftextw_any xs' w2 (by have := HS.out.2.1; omega)
              rw [← HS.out.1] at TT
              refine TT.mono ?_
              rintro e w5 ⟨rfl, c5⟩
              have NN := N2.keep c5 (fun h => h) (fun _ _ _ h => h)
              have OO := O2.trans c5 (fun _ _ h => h)
              have ZZ : w1.heap.size + 1 ≤ w5.heap.size := by have := c5.size; omega
              replace NN := NN.mono (Nat.le_refl _) (by have := c5.size; omega : w2.heap.size ≤ w5.heap.size)
              clear z2 c5 N2 O2 TT i4
              obtain ⟨⟨T, er⟩, hT⟩ : ∃ q, q = textW xs' := ⟨_, rfl⟩
              have hTl : T.length ≤ 100 := by
                have := textW_len xs'
                rw [← hT] at this
                exact Nat.le_trans this (by decide)
              rw [← hT] at NN ⊢
              clear hT
              simp only [] at NN ⊢
              obtain ⟨L2, hL2⟩ : ∃ L2, L2 = L ++ T := ⟨_, rfl⟩
              rw [← hL2] at NN
              have hl2 : L2.length ≤ 100 * (j + 1) := by rw [hL2, List.length_append]; omega
              have hbL := bstr_size L
              have hbT := bstr_size T
              have hap := bstr_append L T
              rw [← hL2] at hap
              obtain ⟨bL, ebL⟩ : ∃ bL, bL = bstr L := ⟨_, rfl⟩
              obtain ⟨bT, ebT⟩ : ∃ bT, bT = bstr T := ⟨_, rfl⟩
              obtain ⟨bL2, ebL2⟩ : ∃ bL2, bL2 = bstr L2 := ⟨_, rfl⟩
              rw [← ebL] at hbL
              rw [← ebT] at hbT
              rw [← ebL, ← ebT, ← ebL2] at hap
              rw [← ebL, ← ebT]
              have s1 : bL.size ≤ 10000 := by omega
              have s2 : bT.size ≤ 100 := by omega
              have heq : (bL2.toList == bL2.toList) = true := beq_self_eq_true _
              have EB := Lib.hid ebL2
              clear hbL hbT ebL ebT ebL2 hL2 a0 zr zz hO N1 hL hbw k0 k1 k2 HX
              go_wp2_with (go_at_call 11; refine (wbytes_any _ _ _ _ _ NN).mono ?_; rintro e w10 ⟨rfl, rfl⟩; rw [← EB.out])
              go_roundw
              case rel => exact ⟨j + 1, by omega, by go_num, L2, by rw [EB.out], NN, OO, hl2, ZZ⟩
              case measure => simp [intOf]; omega
            · have c2' : (xk == 2) = false := by simpa using c2
              have NN := N1
              have OO := hO
              have ZZ := zr
              have hl2 : L.length ≤ 100 * (j + 1) := by omega
              have hbL := bstr_size L
              have hap : bstr L ++ (⟨#[]⟩ : ByteArray) = bstr L := by have := bstr_append L []; rw [List.append_nil] at this; exact this
              obtain ⟨bL, ebL⟩ : ∃ bL, bL = bstr L := ⟨_, rfl⟩
              rw [← ebL] at hbL hap
              rw [← ebL]
              have s1 : bL.size ≤ 10000 := by omega
              have heq : (bL.toList == bL.toList) = true := beq_self_eq_true _
              have EB := Lib.hid ebL
              clear hbL ebL a0 zr zz hO N1 hL hbw k0 k1 k2 HX
              go_wp2_with (go_at_call 11; refine (wbytes_any _ _ _ _ _ NN).mono ?_; rintro e w10 ⟨rfl, rfl⟩; rw [← EB.out])
              go_roundw
              case rel => exact ⟨j + 1, by omega, by go_num, L, by rw [EB.out], NN, OO, hl2, ZZ⟩
              case measure => simp [intOf]; omega
    · obtain rfl : j = n := by omega
      obtain ⟨bL, ebL⟩ : ∃ bL, bL = bstr L := ⟨_, rfl⟩
      rw [← ebL]
      have heq : (bL.toList == bL.toList) = true := beq_self_eq_true _
      have EB := Lib.hid ebL
      clear ebL
      go_wp2_with (go_at_call 11; refine (wbytes_any _ _ _ _ _ N1).mono ?_; rintro e w10 ⟨rfl, rfl⟩; rw [← EB.out])
      go_ret
      exact ⟨rfl, hO⟩
end Go.Proofs.Ytkgmjphdocmodaa.Octet
