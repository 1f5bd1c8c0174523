/- The walk of DigestParts. -/
import Derived.Test.YtgcambjoeaijkaaDoorDigF
namespace Go.Proofs.YtgcambjoeaijkaaDoor.Dig
open Go Go.RowKit Go.Proofs.YtgcambjoeaijkaaDoor.Mem


set_option maxRecDepth 100000 in
set_option maxHeartbeats 2000000 in
theorem parts_law (ao : Option Addr) (len cap : Nat) (w : World)
    (hc : 0 < len → ∃ b off, ao = some ⟨b, off, none⟩ ∧ ∃ ss : Nat → List UInt8, ∀ i, i < len → w.cell? ⟨b, off + i, none⟩ = some (.string (bstr (ss i))) ) (hKT : KTab w) :
    Calls Tryd.prog 5 #[.slice ao len cap] w fun r w' => r = .returned (.bool true) ∧ OnlyNew w w' := by
  have HK := Lib.hid hKT
  have HC := Lib.hid hc
  clear hKT hc
  by_cases h30 : 30 < len
  · skip
    go_enter Tryd.func5, Tryd.ntmps5
    go_wp2_with (go_at_call 8; refine (shown_any _ HK.out).mono ?_; rintro e w1 ⟨rfl, c1⟩)
    go_ret
    exact ⟨rfl, c1⟩
  · have hb1 : len ≤ 30 := by omega
    clear h30
    go_enter Tryd.func5, Tryd.ntmps5
    go_wp2_with (go_at_call 8; refine (shown_any _ HK.out).mono ?_; rintro e w1 ⟨rfl, c1⟩)
    obtain ⟨p, hp⟩ : ∃ p, p = w1.heap.size := ⟨_, rfl⟩
    have HWP := Lib.hid (show w.heap.size ≤ p by rw [hp]; exact c1.size)
    have HP := Lib.hid (And.intro hp trivial)
    rw [← hp]
    clear hp
    generalize decide (30 < (len : Int)) = gg
    go_loopw [4, 5] (fun s i wr => ∃ (j : Nat) (T : List UInt8), j ≤ len ∧ i = .int .i64 j ∧ s = .string (bstr T) ∧ T.length ≤ 200 * j ∧ Stm wr p T ∧ OnlyNew w wr) (fun _ i _ => len - (intOf i).toNat)
    case atStart => exact ⟨0, [], Nat.zero_le _, rfl, rfl, Nat.zero_le _, stm_zero _ _ _ rfl _ HP.out.1, c1.alloc _⟩
    case round =>
      obtain ⟨j, T, hj, rfl, rfl, hTl, S1, C1⟩ := hrel
      clear c1
      by_cases hlt : j < len
      · obtain ⟨b0, off, rfl, ss, hcs⟩ := HC.out (by omega)
        have hcell := hcs j hlt
        have hb0 := block_lt hcell
        simp only at hb0
        obtain ⟨S, hS⟩ : ∃ S, S = ss j := ⟨_, rfl⟩
        rw [← hS] at hcell
        obtain ⟨sb, hsb⟩ : ∃ sb, sb = bstr S := ⟨_, rfl⟩
        rw [← hsb] at hcell
        have hsbs : sb.size = S.length := by rw [hsb, bstr_size]
        obtain ⟨tb, htb⟩ : ∃ tb, tb = bstr T := ⟨_, rfl⟩
        rw [← htb]
        have hcl := C1.at_ hcell (fun h => h)
        have HNE := Lib.hid (show ¬ b0 = p by have := HWP.out; omega)
        have HSB := Lib.hid (⟨hsb, htb, trivial⟩ : _ ∧ _ ∧ True)
        by_cases h200 : 200 < S.length
        · have h1 : 200 < sb.size := by omega
          clear hcell hcs hS hsb hsbs htb hb0 hTl S1 h200 HC
          go_wp2_with (go_at_call 8; refine (shown_any _ (HK.out.keep C1 (fun h => h))).mono ?_; rintro e w2 ⟨rfl, c2⟩)
          go_ret
          exact ⟨rfl, C1.trans c2 (fun _ _ h => h)⟩
        · have h1 : sb.size ≤ 200 := by omega
          have htbs : tb.size ≤ 6000 := by rw [htb, bstr_size]; omega
          obtain ⟨T2, hT2⟩ : ∃ T2, T2 = T ++ S := ⟨_, rfl⟩
          have HLT := Lib.hid (show T2.length ≤ 200 * j + 200 ∧ T.length + S.length ≤ 1000000 by rw [hT2, List.length_append]; omega)
          have hap : tb ++ sb = bstr T2 := by rw [htb, hsb, bstr_append, hT2]
          obtain ⟨tb2, htb2⟩ : ∃ tb2, tb2 = bstr T2 := ⟨_, rfl⟩
          rw [← htb2] at hap
          have HT2 := Lib.hid (⟨htb2, hT2, trivial⟩ : _ ∧ _ ∧ True)
          have HAP := Lib.hid (And.intro hap trivial)
          obtain ⟨sv, hsv⟩ : ∃ sv, sv = (cellsOf (sha T2)).toArray := ⟨_, rfl⟩
          have heq : ∀ wx, (Op.equalIn 10000 24 (.agg sv) (.agg sv)).run Tryd.prog wx = .ok true wx := fun wx => by
            rw [hsv, eq_hash wx _ _ (sha_length T2) (sha_length T2), beq_self_eq_true]
          have HEQ := Lib.hid (And.intro heq trivial)
          have HSV := Lib.hid (And.intro hsv trivial)
          clear hcell hcs hS hsb hsbs htb hb0 hTl h200 HC hap htb2 hT2 heq hsv
          go_upto_region 12 with (go_at_call 17; rw [HSB.out.1]; refine (write_any p T S (by have := HLT.out.2; omega) _ (HK.out.keep C1 (fun h => h)) S1).mono ?_; rintro e w2 ⟨rfl, S2, c2⟩; rw [← HSB.out.1]; rw [← HT2.out.2.1] at S2; have C2 : OnlyNew w w2 := C1.trans c2 (fun j hj e => by have := HWP.out; omega); have hcl2 := c2.at_ hcl HNE.out; clear c2 hcl S1 C1)
          rw [HAP.out.1]
          have KT2 := Lib.hid (HK.out.keep C2 (fun h => h))
          clear hcl2
          obtain ⟨r, hr⟩ : ∃ r, r = j % 3 := ⟨_, rfl⟩
          have eq0 : (j : Int) % 3 = (r : Int) := by omega
          have hr3 : r = 0 ∨ r = 1 ∨ r = 2 := by omega
          clear hr
          rcases hr3 with rfl | rfl | rfl
          · have eq1 : (j : Int) % 3 = 0 := eq0
            clear eq0
            refine Lin.region_seq [0, 1, 3, 7, 15, 31, 15, 127, 255, 511] [] [] (fun _ => False) (fun _ w' => Stm w' p T2 ∧ KTab w') _ rfl (by kernel_rfl) (⟨S2, KT2.out⟩) ?_
            -- 0 41:move
            (refine Lin.walk_pure ?_ (by kernel_rfl) (by kernel_rfl) (by rfl) ?_ ?_; rotate_left; (focus (intro w; (go_simp; (try go_ints); (try simp only [IntWalk.iteOmega]); (try go_simp); try with_reducible rfl))); (intro S' hS'; simp only [Act.put, List.setIfInBounds_toArray, List.set_cons_zero, List.set_cons_succ] at hS'; subst hS'))
            -- 1 42:binOp
            (refine Lin.walk_pure ?_ (by kernel_rfl) (by kernel_rfl) (by rfl) ?_ ?_; rotate_left; (focus (intro w; (go_simp; (try go_ints); (try simp only [IntWalk.iteOmega]); (try go_simp); try with_reducible rfl))); (intro S' hS'; simp only [Act.put, List.setIfInBounds_toArray, List.set_cons_zero, List.set_cons_succ] at hS'; subst hS'))
            -- 2 43:binOp
            (refine Lin.walk_pure ?_ (by kernel_rfl) (by kernel_rfl) (by rfl) ?_ ?_; rotate_left; (focus (intro w; (go_simp; (try go_ints); (try simp only [IntWalk.iteOmega]); (try go_simp); try with_reducible rfl))); (intro S' hS'; simp only [Act.put, List.setIfInBounds_toArray, List.set_cons_zero, List.set_cons_succ] at hS'; subst hS'))
            -- 3 44:move
            (refine Lin.walk_pure ?_ (by kernel_rfl) (by kernel_rfl) (by rfl) ?_ ?_; rotate_left; (focus (intro w; (go_simp; (try go_ints); (try simp only [IntWalk.iteOmega]); (try go_simp); try with_reducible rfl))); (intro S' hS'; simp only [Act.put, List.setIfInBounds_toArray, List.set_cons_zero, List.set_cons_succ] at hS'; subst hS'))
            -- 4 45:move?
            (refine Lin.walk_pure ?_ (by kernel_rfl) (by kernel_rfl) (by rfl) ?_ ?_; rotate_left; (focus (intro w; (go_simp; (try go_ints); (try simp only [IntWalk.iteOmega]); (try go_simp); try with_reducible rfl))); (intro S' hS'; simp only [Act.put, List.setIfInBounds_toArray, List.set_cons_zero, List.set_cons_succ] at hS'; subst hS'))
            -- 5 46:call!?
            (refine Lin.walk_call (.agg sv) (by kernel_rfl) (by kernel_rfl) (by kernel_rfl) (by rfl) ?_ ?_; (focus (intro w1 hC hI; dsimp only at hC hI; go_simp; rw [HSV.out.1]; exact Calls.mono (sum_any p T2 (by have := HLT.out; omega) _ hI.2 hI.1) (by rintro e' w9 ⟨rfl, hN⟩; exact ⟨_, rfl, rfl, hN, hI.1.keep hN (fun h => h), hI.2.keep hN (fun h => h)⟩))); (intro S' hS'; simp only [Act.put, List.setIfInBounds_toArray, List.set_cons_zero, List.set_cons_succ] at hS'; subst hS'))
            -- 6 47:move?
            (refine Lin.walk_pure ?_ (by kernel_rfl) (by kernel_rfl) (by rfl) ?_ ?_; rotate_left; (focus (intro w; (go_simp; (try go_ints); (try simp only [IntWalk.iteOmega]); (try go_simp); try with_reducible rfl))); (intro S' hS'; simp only [Act.put, List.setIfInBounds_toArray, List.set_cons_zero, List.set_cons_succ] at hS'; subst hS'))
            -- 7 48:call!?
            (refine Lin.walk_call (.agg sv) (by kernel_rfl) (by kernel_rfl) (by kernel_rfl) (by rfl) ?_ ?_; (focus (intro w1 hC hI; dsimp only at hC hI; go_simp; rw [HSV.out.1, HT2.out.1]; exact Calls.mono (sha_any T2 (by have := HLT.out; omega) _ hI.2) (by rintro e' w9 ⟨rfl, hN⟩; exact ⟨_, rfl, rfl, hN, hI.1.keep hN (fun h => h), hI.2.keep hN (fun h => h)⟩))); (intro S' hS'; simp only [Act.put, List.setIfInBounds_toArray, List.set_cons_zero, List.set_cons_succ] at hS'; subst hS'))
            -- 8 49:binOp?
            (refine Lin.walk_pure (.bool false) (by kernel_rfl) (by kernel_rfl) (by rfl) ?_ ?_; (focus (intro w; have heq := HEQ.out.1; go_simp; (try simp [heq]))); (intro S' hS'; simp only [Act.put, List.setIfInBounds_toArray, List.set_cons_zero, List.set_cons_succ] at hS'; subst hS'))
            -- 9 50:pick
            (refine Lin.walk_pure ?_ (by kernel_rfl) (by kernel_rfl) (by rfl) ?_ ?_; rotate_left; (focus (intro w; (go_simp; (try go_ints); (try simp only [IntWalk.iteOmega]); (try go_simp); try with_reducible rfl))); (intro S' hS'; simp only [Act.put, List.setIfInBounds_toArray, List.set_cons_zero, List.set_cons_succ] at hS'; subst hS'))
            (refine Lin.walk_end0 rfl ?_; intro W' hC hI)
            have S3 := hI.1
            replace C2 := C2.trans hC (fun _ _ h => h)
            clear hI eq1
            go_wp2
            go_roundw
            case rel => exact ⟨j + 1, T2, by omega, by go_num, by rw [HT2.out.1], by have := HLT.out; omega, S3, C2⟩
            case measure => simp [intOf]; omega
          · have eq1 : (j : Int) % 3 = 1 := eq0
            clear eq0
            refine Lin.region_seq [0, 1, 3, 7, 15, 31, 15, 127, 255, 511] [] [] (fun _ => False) (fun _ w' => Stm w' p T2 ∧ KTab w') _ rfl (by kernel_rfl) (⟨S2, KT2.out⟩) ?_
            -- 0 41:move
            (refine Lin.walk_pure ?_ (by kernel_rfl) (by kernel_rfl) (by rfl) ?_ ?_; rotate_left; (focus (intro w; (go_simp; (try go_ints); (try simp only [IntWalk.iteOmega]); (try go_simp); try with_reducible rfl))); (intro S' hS'; simp only [Act.put, List.setIfInBounds_toArray, List.set_cons_zero, List.set_cons_succ] at hS'; subst hS'))
            -- 1 42:binOp
            (refine Lin.walk_pure ?_ (by kernel_rfl) (by kernel_rfl) (by rfl) ?_ ?_; rotate_left; (focus (intro w; (go_simp; (try go_ints); (try simp only [IntWalk.iteOmega]); (try go_simp); try with_reducible rfl))); (intro S' hS'; simp only [Act.put, List.setIfInBounds_toArray, List.set_cons_zero, List.set_cons_succ] at hS'; subst hS'))
            -- 2 43:binOp
            (refine Lin.walk_pure ?_ (by kernel_rfl) (by kernel_rfl) (by rfl) ?_ ?_; rotate_left; (focus (intro w; (go_simp; (try go_ints); (try simp only [IntWalk.iteOmega]); (try go_simp); try with_reducible rfl))); (intro S' hS'; simp only [Act.put, List.setIfInBounds_toArray, List.set_cons_zero, List.set_cons_succ] at hS'; subst hS'))
            -- 3 44:move
            (refine Lin.walk_pure ?_ (by kernel_rfl) (by kernel_rfl) (by rfl) ?_ ?_; rotate_left; (focus (intro w; (go_simp; (try go_ints); (try simp only [IntWalk.iteOmega]); (try go_simp); try with_reducible rfl))); (intro S' hS'; simp only [Act.put, List.setIfInBounds_toArray, List.set_cons_zero, List.set_cons_succ] at hS'; subst hS'))
            -- 4 45:move?
            (refine Lin.walk_skip (by kernel_rfl) (by kernel_rfl) (by rfl) ?_; (intro S' hS'; simp only [Act.put, List.setIfInBounds_toArray, List.set_cons_zero, List.set_cons_succ] at hS'; subst hS'))
            -- 5 46:call!?
            (refine Lin.walk_skip (by kernel_rfl) (by kernel_rfl) (by rfl) ?_; (intro S' hS'; simp only [Act.put, List.setIfInBounds_toArray, List.set_cons_zero, List.set_cons_succ] at hS'; subst hS'))
            -- 6 47:move?
            (refine Lin.walk_skip (by kernel_rfl) (by kernel_rfl) (by rfl) ?_; (intro S' hS'; simp only [Act.put, List.setIfInBounds_toArray, List.set_cons_zero, List.set_cons_succ] at hS'; subst hS'))
            -- 7 48:call!?
            (refine Lin.walk_skip (by kernel_rfl) (by kernel_rfl) (by rfl) ?_; (intro S' hS'; simp only [Act.put, List.setIfInBounds_toArray, List.set_cons_zero, List.set_cons_succ] at hS'; subst hS'))
            -- 8 49:binOp?
            (refine Lin.walk_skip (by kernel_rfl) (by kernel_rfl) (by rfl) ?_; (intro S' hS'; simp only [Act.put, List.setIfInBounds_toArray, List.set_cons_zero, List.set_cons_succ] at hS'; subst hS'))
            -- 9 50:pick
            (refine Lin.walk_pure ?_ (by kernel_rfl) (by kernel_rfl) (by rfl) ?_ ?_; rotate_left; (focus (intro w; (go_simp; (try go_ints); (try simp only [IntWalk.iteOmega]); (try go_simp); try with_reducible rfl))); (intro S' hS'; simp only [Act.put, List.setIfInBounds_toArray, List.set_cons_zero, List.set_cons_succ] at hS'; subst hS'))
            (refine Lin.walk_end0 rfl ?_; intro W' hC hI)
            have S3 := hI.1
            replace C2 := C2.trans hC (fun _ _ h => h)
            clear hI eq1
            go_wp2
            go_roundw
            case rel => exact ⟨j + 1, T2, by omega, by go_num, by rw [HT2.out.1], by have := HLT.out; omega, S3, C2⟩
            case measure => simp [intOf]; omega
          · have eq1 : (j : Int) % 3 = 2 := eq0
            clear eq0
            refine Lin.region_seq [0, 1, 3, 7, 15, 31, 15, 127, 255, 511] [] [] (fun _ => False) (fun _ w' => Stm w' p T2 ∧ KTab w') _ rfl (by kernel_rfl) (⟨S2, KT2.out⟩) ?_
            -- 0 41:move
            (refine Lin.walk_pure ?_ (by kernel_rfl) (by kernel_rfl) (by rfl) ?_ ?_; rotate_left; (focus (intro w; (go_simp; (try go_ints); (try simp only [IntWalk.iteOmega]); (try go_simp); try with_reducible rfl))); (intro S' hS'; simp only [Act.put, List.setIfInBounds_toArray, List.set_cons_zero, List.set_cons_succ] at hS'; subst hS'))
            -- 1 42:binOp
            (refine Lin.walk_pure ?_ (by kernel_rfl) (by kernel_rfl) (by rfl) ?_ ?_; rotate_left; (focus (intro w; (go_simp; (try go_ints); (try simp only [IntWalk.iteOmega]); (try go_simp); try with_reducible rfl))); (intro S' hS'; simp only [Act.put, List.setIfInBounds_toArray, List.set_cons_zero, List.set_cons_succ] at hS'; subst hS'))
            -- 2 43:binOp
            (refine Lin.walk_pure ?_ (by kernel_rfl) (by kernel_rfl) (by rfl) ?_ ?_; rotate_left; (focus (intro w; (go_simp; (try go_ints); (try simp only [IntWalk.iteOmega]); (try go_simp); try with_reducible rfl))); (intro S' hS'; simp only [Act.put, List.setIfInBounds_toArray, List.set_cons_zero, List.set_cons_succ] at hS'; subst hS'))
            -- 3 44:move
            (refine Lin.walk_pure ?_ (by kernel_rfl) (by kernel_rfl) (by rfl) ?_ ?_; rotate_left; (focus (intro w; (go_simp; (try go_ints); (try simp only [IntWalk.iteOmega]); (try go_simp); try with_reducible rfl))); (intro S' hS'; simp only [Act.put, List.setIfInBounds_toArray, List.set_cons_zero, List.set_cons_succ] at hS'; subst hS'))
            -- 4 45:move?
            (refine Lin.walk_skip (by kernel_rfl) (by kernel_rfl) (by rfl) ?_; (intro S' hS'; simp only [Act.put, List.setIfInBounds_toArray, List.set_cons_zero, List.set_cons_succ] at hS'; subst hS'))
            -- 5 46:call!?
            (refine Lin.walk_skip (by kernel_rfl) (by kernel_rfl) (by rfl) ?_; (intro S' hS'; simp only [Act.put, List.setIfInBounds_toArray, List.set_cons_zero, List.set_cons_succ] at hS'; subst hS'))
            -- 6 47:move?
            (refine Lin.walk_skip (by kernel_rfl) (by kernel_rfl) (by rfl) ?_; (intro S' hS'; simp only [Act.put, List.setIfInBounds_toArray, List.set_cons_zero, List.set_cons_succ] at hS'; subst hS'))
            -- 7 48:call!?
            (refine Lin.walk_skip (by kernel_rfl) (by kernel_rfl) (by rfl) ?_; (intro S' hS'; simp only [Act.put, List.setIfInBounds_toArray, List.set_cons_zero, List.set_cons_succ] at hS'; subst hS'))
            -- 8 49:binOp?
            (refine Lin.walk_skip (by kernel_rfl) (by kernel_rfl) (by rfl) ?_; (intro S' hS'; simp only [Act.put, List.setIfInBounds_toArray, List.set_cons_zero, List.set_cons_succ] at hS'; subst hS'))
            -- 9 50:pick
            (refine Lin.walk_pure ?_ (by kernel_rfl) (by kernel_rfl) (by rfl) ?_ ?_; rotate_left; (focus (intro w; (go_simp; (try go_ints); (try simp only [IntWalk.iteOmega]); (try go_simp); try with_reducible rfl))); (intro S' hS'; simp only [Act.put, List.setIfInBounds_toArray, List.set_cons_zero, List.set_cons_succ] at hS'; subst hS'))
            (refine Lin.walk_end0 rfl ?_; intro W' hC hI)
            have S3 := hI.1
            replace C2 := C2.trans hC (fun _ _ h => h)
            clear hI eq1
            go_wp2
            go_roundw
            case rel => exact ⟨j + 1, T2, by omega, by go_num, by rw [HT2.out.1], by have := HLT.out; omega, S3, C2⟩
            case measure => simp [intOf]; omega
      · obtain rfl : j = len := by omega
        obtain ⟨tb, htb⟩ : ∃ tb, tb = bstr T := ⟨_, rfl⟩
        rw [← htb]
        obtain ⟨sv, hsv⟩ : ∃ sv, sv = (cellsOf (sha T)).toArray := ⟨_, rfl⟩
        have heq : ∀ wx, (Op.equalIn 10000 24 (.agg sv) (.agg sv)).run Tryd.prog wx = .ok true wx := fun wx => by
          rw [hsv, eq_hash wx _ _ (sha_length T) (sha_length T), beq_self_eq_true]
        have HSV := Lib.hid (And.intro hsv trivial)
        have HTB := Lib.hid (And.intro htb trivial)
        have HLT := Lib.hid (show T.length ≤ 1000000 by omega)
        clear hsv htb hTl hlt hj HC
        go_wp2_with (first
          | (go_at_call 18; refine (sum_any p T (by have := HLT.out; omega) _ (HK.out.keep C1 (fun h => h)) S1).mono ?_; rintro e w4 ⟨rfl, c4⟩; rw [← HSV.out.1]; replace S1 := S1.keep c4 (fun h => h); replace C1 := C1.trans c4 (fun _ _ h => h); clear c4)
          | (go_at_call 10; rw [HTB.out.1]; refine (refsha_any T (by have := HLT.out; omega) _).mono ?_; rintro e w5 ⟨rfl, c5⟩; rw [← HTB.out.1, ← HSV.out.1]; replace S1 := S1.keep c5 (fun h => h); replace C1 := C1.trans c5 (fun _ _ h => h); clear c5)
          | (go_at_call 9; rw [HTB.out.1]; refine (sha_any T (by have := HLT.out; omega) _ (HK.out.keep C1 (fun h => h))).mono ?_; rintro e w6 ⟨rfl, c6⟩; rw [← HTB.out.1, ← HSV.out.1]; replace C1 := C1.trans c6 (fun _ _ h => h); clear c6))
        go_ret
        exact ⟨rfl, C1⟩
end Go.Proofs.YtgcambjoeaijkaaDoor.Dig
