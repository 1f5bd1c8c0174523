/- The contracts of a Stream's Sum, and of Sum. -/
import Derived.Test.YtomalanncdcopaaDoorDigT
set_option linter.unusedSimpArgs false
set_option linter.unusedVariables false
namespace Go.Proofs.YtomalanncdcopaaDoor.Dig
open Go Go.RowKit Go.Proofs.YtomalanncdcopaaDoor.Mem


set_option maxHeartbeats 4000000 in
theorem sum_any (p : Nat) (t : List UInt8) (hl : t.length ≤ 1000000000000) (w : World) (hKT : KTab w) (hS : Stm w p t) :
    Calls Tryd.prog 17 #[.pointer (some ⟨p, 0, none⟩)] w fun r w' => r = .returned (.agg (cellsOf (sha t)).toArray) ∧ OnlyNew w w' := by
  obtain ⟨h, hh, hrun, hR⟩ := hS
  obtain ⟨q, hq⟩ : ∃ q, q = t.length / 64 := ⟨_, rfl⟩
  obtain ⟨rest, hrest⟩ : ∃ rest, rest = t.drop (64 * (t.length / 64)) := ⟨_, rfl⟩
  obtain ⟨m, hm⟩ : ∃ m, m = t.length := ⟨_, rfl⟩
  rw [← hrest, ← hm] at hR
  have hm1 : m ≤ 1000000000000 := by omega
  have hrl : rest.length ≤ 63 := by rw [hrest, List.length_drop]; omega
  obtain ⟨X, hX⟩ : ∃ X, X = rest ++ 128 :: List.replicate (zeros rest.length) 0 ++ be8 (m * 8) := ⟨_, rfl⟩
  obtain ⟨n, hn⟩ : ∃ n, n = X.length / 64 := ⟨_, rfl⟩
  have hXn : X.length = 64 * n := by
    rw [hn, hX]
    have := zeros_hit rest.length
    simp only [List.length_append, List.length_cons, List.length_replicate, be8_length]
    omega
  have hPX : lens (pad rest) m 8 = X := by
    rw [hX]; exact lens_all _ _ (be8_length _) m
  have hPl : (pad rest).length = X.length := by rw [← hPX, lens_length]
  have hn1 : n ≤ 3 := by
    have := zeros_lt rest.length
    have := pad_length rest
    omega
  have hn0 : 1 ≤ n := by
    have := pad_length rest
    omega
  obtain ⟨h0, hh0⟩ : ∃ h0, h0 = run iv t q := ⟨_, rfl⟩
  have hsha : sha t = hashOf (run h0 X n) := by
    rw [sha_rest, hh0, hq, hn, hX, hrest, hm]
  have hm0h : m ≠ 0 → h = h0 := fun h1 => by rw [hh0, hq]; exact hrun (fun e => h1 (by rw [hm, e]; rfl))
  have hm0i : m = 0 → h0 = iv := fun h1 => by rw [hh0, hq, ← hm, h1]; rfl
  have h0l : h0.length = 8 := by rw [hh0]; exact run_length _ _ _
  have c8 := stm8 hh hR
  have c9 := stm9 hh hR
  obtain ⟨rb, hrb⟩ : ∃ rb, rb = bstr rest := ⟨_, rfl⟩
  obtain ⟨pb, hpb⟩ : ∃ pb, pb = bstr (pad rest) := ⟨_, rfl⟩
  rw [← hrb] at c8
  obtain ⟨hv, hhv⟩ : ∃ hv, hv = (wcells h).toArray := ⟨_, rfl⟩
  obtain ⟨rv, hrv⟩ : ∃ rv, rv = (cellsOf (sha t)).toArray := ⟨_, rfl⟩
  rw [← hrv]
  have hpl := block_lt c8
  simp only at hpl
  have HG := Lib.hid (show ¬ (0 = w.heap.size + 1) from fun e => by have := hKT.lt; omega)
  have HNP := Lib.hid (show ¬ (p = w.heap.size + 1) by omega)
  have H1 := Lib.hid (⟨hXn, hPX, hPl, hsha, hm0h, hm0i, h0l, hrb, hpb, hhv, hrv, hR, hh⟩ : _ ∧ _ ∧ _ ∧ _ ∧ _ ∧ _ ∧ _ ∧ _ ∧ _ ∧ _ ∧ _ ∧ _ ∧ _)
  have HK := Lib.hid hKT
  have hw8 : (wcells h).length = 8 := by rw [wcells_length]; exact hh
  have HW8 := Lib.hid hw8
  clear hXn hPX hPl hsha hm0h hm0i h0l hrb hpb hhv hrv hR hh hKT hw8 hh0 hn hX hm hrest hq hrun hl
  by_cases hmz : m = 0
  · have hm0 : ((m : Int) == 0) = true := by simp; omega
    have H0 := Lib.hid hmz
    clear hmz
    obtain ⟨bv, hbv⟩ : ∃ bv, bv = (wcells iv).toArray := ⟨_, rfl⟩
    have HBV := Lib.hid hbv
    clear hbv
    go_enter Tryd.func17, Tryd.ntmps17
    go_wp2_with (first
      | (refine wpList_loadRow rfl 37 (.tmp 7) rfl p 0 rfl (wcells h) ((Row.left (xs := wcells h) H1.out.2.2.2.2.2.2.2.2.2.2.2.1).alloc _) _ Tryd.underlying37 rfl 8 size8 HW8.out ?_; rw [← H1.out.2.2.2.2.2.2.2.2.2.1])
      | (refine wpList_storeRow rfl 37 (.tmp 3) (.tmp 8) rfl (w.heap.size + 1) 0 _ (wcells h) rfl (by show Value.agg hv = _; rw [H1.out.2.2.2.2.2.2.2.2.2.1]) (Row.newAt _ _ _ _ _ (by simp) rfl) 8 size8 rfl HW8.out (wcells_one h) ?_; intro w2 B1 _ _ c2; have B0 := ((Row.newAt w _ 24 (cellsOf (List.replicate 32 0)) w.heap.size rfl rfl).alloc _).keep c2 (fun e => by omega); have C2 : OnlyNew w w2 := (((Chgd.refl (fun _ => False) w).alloc _).alloc _).trans c2 (fun j hj e => by omega); replace c8 := C2.at_ c8 (fun h => h); replace c9 := C2.at_ c9 (fun h => h))
      | (go_at_call 20; refine (begins_any _).mono ?_; rintro e w3 ⟨rfl, c3⟩; rw [← HBV.out]; replace B1 := B1.keep c3 (fun h => h); replace B0 := B0.keep c3 (fun h => h); replace C2 := C2.trans c3 (fun _ _ h => h); replace c8 := c3.at_ c8 (fun h => h); replace c9 := c3.at_ c9 (fun h => h))
      | (refine wpList_storeRow rfl 37 (.tmp 3) (.tmp 14) rfl (w.heap.size + 1) 0 (wcells h) (wcells iv) rfl (by show Value.agg bv = _; rw [HBV.out]) B1 8 size8 HW8.out rfl (wcells_one iv) ?_; clear B1; intro w4 B1 _ _ c4; replace B0 := B0.keep c4 (fun e => by omega); replace c8 := c4.at_ c8 HNP.out; replace c9 := c4.at_ c9 HNP.out; replace C2 := C2.trans c4 (fun j hj e => by omega)))
    rw [← H1.out.2.2.2.2.2.1 H0.out] at B1
    replace HW8 := Lib.hid (show (wcells h0).length = 8 by rw [wcells_length]; exact H1.out.2.2.2.2.2.2.1)
    have hpr := H1.out.2.2.1
    have hXn := H1.out.1
    have HXX := Lib.hid (⟨hpr, hXn⟩ : _ ∧ _)
    clear hpr hXn
    go_wp2_with (first
      | (go_at_call 22; rw [H1.out.2.2.2.2.2.2.2.1]; refine (pad_any rest (by omega) _).mono ?_; rintro e w4 ⟨rfl, c4⟩; rw [← H1.out.2.2.2.2.2.2.2.2.1]; replace C2 := C2.trans c4 (fun _ _ h => h); replace B1 := B1.keep c4 (fun h => h); replace B0 := B0.keep c4 (fun h => h); replace c9 := c4.at_ c9 (fun h => h); clear c4)
      | (refine wpList_bytes rfl 9 27 (.tmp 19) rfl 5 Tryd.underlying9 Tryd.underlying27 Tryd.underlying5 (pad rest) (by rw [HXX.out.1, HXX.out.2]; omega) (by show Value.string pb = _; rw [H1.out.2.2.2.2.2.2.2.2.1]) ?_; intro B cap1 w5 hR5 c5 hB5; replace C2 := C2.trans c5 (fun _ _ h => h); have hBb := Nat.lt_of_lt_of_le (B1.lt (by rw [HW8.out]; omega)) hB5; replace B1 := B1.keep c5 (fun h => h); replace B0 := B0.keep c5 (fun h => h); replace c9 := c5.at_ c9 (fun h => h); clear c5)
      | (go_at_call 23; refine (length_any (pad rest) (by rw [HXX.out.1, HXX.out.2]; omega) (by rw [HXX.out.1, HXX.out.2]; omega) B 0 cap1 m (by omega) _ hR5).mono ?_; rintro e w6 ⟨rfl, hR6, c6⟩; rw [H1.out.2.1] at hR6; replace C2 := C2.trans c6 (fun j hj e => by omega); replace B1 := B1.keep c6 (fun e => by omega); replace B0 := B0.keep c6 (fun e => by omega)))
    have hPl64 : (pad rest).length = 64 * n := by rw [HXX.out.1, HXX.out.2]
    rw [hPl64] at hR6 ⊢
    have KX := HK.out.keep C2 (fun h => h)
    clear hPl64 hR5
    obtain ⟨w7, rfl⟩ : ∃ x : World, x = w6 := ⟨_, rfl⟩
    clear c8 c9
    go_loopw [4] (fun v wr => ∃ j ao cp, j ≤ n ∧ v = .slice ao (64 * (n - j)) cp ∧ (j < n → ao = some ⟨B, 64 * j, none⟩ ∧ cp = cap1 - 64 * j ∧ 64 * (n - j) ≤ cp) ∧ Srow wr 1 (some ⟨B, 0, none⟩) (64 * n) cap1 (cellsOf X) (some B) ∧ Row wr (w.heap.size + 1) 0 (wcells (run h0 X j)) ∧ KTab wr ∧ OnlyNew w wr ∧ Row wr w.heap.size 0 (cellsOf (List.replicate 32 0)))
      (fun v _ => match v with | .slice _ l _ => l | _ => 0)
    case atStart => exact ⟨0, some ⟨B, 0, none⟩, cap1, Nat.zero_le _, rfl, fun _ => ⟨rfl, rfl, hR6.len.2⟩, hR6, B1, KX, C2, B0⟩
    case round =>
      obtain ⟨j, ao, cp, hj, rfl, hao, hRb, B1b, KTb, C7, B0b⟩ := hrel
      by_cases hlt : j < n
      · obtain ⟨rfl, hcp, hcl⟩ := hao hlt
        obtain ⟨o, ho⟩ : ∃ o, o = 64 * j := ⟨_, rfl⟩
        obtain ⟨ln, hln⟩ : ∃ ln, ln = 64 * (n - j) := ⟨_, rfl⟩
        rw [← ho] at hcp ⊢
        rw [← hln] at hcl ⊢
        have hln1 : 64 ≤ ln := by omega
        have hln2 : ln ≤ 192 := by omega
        have hsub := Srow.sub hRb o 64 (by omega)
        rw [Nat.zero_add, cellsOf_sub, ← hcp] at hsub
        obtain ⟨Bk, hBk⟩ : ∃ Bk, Bk = (X.drop o).take 64 := ⟨_, rfl⟩
        rw [← hBk] at hsub
        have hBkl : Bk.length = 64 := by have := hsub.len.1; rw [cellsOf_length] at this; omega
        obtain ⟨b64, hb64⟩ : ∃ b64, b64 = bstr Bk := ⟨_, rfl⟩
        obtain ⟨hj0, hhj0⟩ : ∃ hj0, hj0 = run h0 X j := ⟨_, rfl⟩
        obtain ⟨hj1, hhj1⟩ : ∃ hj1, hj1 = comp hj0 Bk := ⟨_, rfl⟩
        have hnext : hj1 = run h0 X (j + 1) := by rw [hhj1, hhj0, hBk, ho, run_snoc]
        obtain ⟨av, hav⟩ : ∃ av, av = (wcells hj0).toArray := ⟨_, rfl⟩
        obtain ⟨av1, hav1⟩ : ∃ av1, av1 = (wcells hj1).toArray := ⟨_, rfl⟩
        have hl0 : hj0.length = 8 := by rw [hhj0, run_length]; exact H1.out.2.2.2.2.2.2.1
        have hl1 : hj1.length = 8 := by rw [hnext, run_length]; exact H1.out.2.2.2.2.2.2.1
        rw [← hhj0] at B1b
        have hos : j + 1 < n → 64 < cp := fun h => by omega
        have HH := Lib.hid (⟨hBkl, hhj1, hnext, hb64, hav, hav1, hl0, hl1⟩ : _ ∧ _ ∧ _ ∧ _ ∧ _ ∧ _ ∧ _ ∧ _)
        have HO := Lib.hid (⟨ho, hln, hcp⟩ : _ ∧ _ ∧ _)
        have HRb := Lib.hid hRb
        have HSb := Lib.hid hsub
        have HB1 := Lib.hid B1b
        have HKT := Lib.hid KTb
        have HOS := Lib.hid hos
        clear hBkl hhj1 hnext hb64 hav hav1 hl0 hl1 ho hln hcp hRb hsub B1b KTb hhj0 hBk hao hos
        go_wp2
        refine Lin.region_lin [0, 0, 2, 6, 15, 31, 63, 63, 127] [] [8] (fun k => k = w.heap.size + 1) (fun e w' => Row w' (w.heap.size + 1) 0 (wcells (two hj0 hj1 e)) ∧ KTab w' ∧ Srow w' 1 (some ⟨B, 0, none⟩) (64 * n) cap1 (cellsOf X) (some B) ∧ Srow w' 1 (some ⟨B, o, none⟩) 64 cp (cellsOf Bk) (some B)) _ (by kernel_rfl) rfl (by kernel_rfl) (⟨HB1.out.drew, HKT.out.keep (Chgd.refl (fun _ => False) _).drew (fun h => h), HRb.out.keep (Chgd.refl (fun _ => False) _).drew (fun _ _ h => h), HSb.out.keep (Chgd.refl (fun _ => False) _).drew (fun _ _ h => h)⟩) ?_
        -- 0 33:load
        (refine Lin.walk_read (.agg av) (by kernel_rfl) (by kernel_rfl) (by kernel_rfl) (by rfl) ?_ ?_; (focus (intro w1 hC hI; rw [HH.out.2.2.2.2.1]; exact exec_loadRow 37 (.tmp 3) rfl (w.heap.size + 1) 0 rfl (wcells hj0) hI.1 _ Tryd.underlying37 rfl 8 size8 (by rw [wcells_length]; exact HH.out.2.2.2.2.2.2.1))); (intro S' hS'; simp only [Act.put, List.setIfInBounds_toArray, List.set_cons_zero, List.set_cons_succ] at hS'; subst hS'))
        -- 1 34:move
        (refine Lin.walk_pure ?_ (by kernel_rfl) (by kernel_rfl) (by rfl) ?_ ?_; rotate_left; (focus (intro w; (go_simp; (try go_ints); (try simp only [IntWalk.iteOmega]); (try go_simp); try with_reducible rfl))); (intro S' hS'; simp only [Act.put, List.setIfInBounds_toArray, List.set_cons_zero, List.set_cons_succ] at hS'; subst hS'))
        -- 2 35:slice
        (refine Lin.walk_pure ?_ (by kernel_rfl) (by kernel_rfl) (by rfl) ?_ ?_; rotate_left; (focus (intro w; (go_simp; (try go_ints); (try simp only [IntWalk.iteOmega]); (try go_simp); try with_reducible rfl))); (intro S' hS'; simp only [Act.put, List.setIfInBounds_toArray, List.set_cons_zero, List.set_cons_succ] at hS'; subst hS'))
        -- 3 36:convert
        (refine Lin.walk_read (.string b64) (by kernel_rfl) (by kernel_rfl) (by kernel_rfl) (by rfl) ?_ ?_; (focus (intro w1 hC hI; have hcv := hI.2.2.2.to_string Tryd.underlying27 Tryd.underlying5 Tryd.underlying9; rw [← HH.out.2.2.2.1] at hcv; go_simp)); (intro S' hS'; simp only [Act.put, List.setIfInBounds_toArray, List.set_cons_zero, List.set_cons_succ] at hS'; subst hS'))
        -- 4 37:call!
        (refine Lin.walk_call (.tuple #[.agg av1, .bool true]) (by kernel_rfl) (by kernel_rfl) (by kernel_rfl) (by rfl) ?_ ?_; (focus (intro w1 hC hI; dsimp only at hC hI; go_simp; have c := comp_any hj0 HH.out.2.2.2.2.2.2.1 Bk HH.out.1 w1 hI.2.1; rw [← HH.out.2.1, ← HH.out.2.2.2.1, ← HH.out.2.2.2.2.1, ← HH.out.2.2.2.2.2.1] at c; exact Calls.mono c (by rintro e w2 ⟨rfl, hN⟩; exact ⟨_, rfl, rfl, hN.mono (fun _ _ h => h.elim), hI.1.keep hN (fun h => h), hI.2.1.keep hN (fun h => h), hI.2.2.1.keep hN (fun _ _ h => h), hI.2.2.2.keep hN (fun _ _ h => h)⟩))); (intro S' hS'; simp only [Act.put, List.setIfInBounds_toArray, List.set_cons_zero, List.set_cons_succ] at hS'; subst hS'))
        -- 5 32:move
        (refine Lin.walk_pure ?_ (by kernel_rfl) (by kernel_rfl) (by rfl) ?_ ?_; rotate_left; (focus (intro w; (go_simp; (try go_ints); (try simp only [IntWalk.iteOmega]); (try go_simp); try with_reducible rfl))); (intro S' hS'; simp only [Act.put, List.setIfInBounds_toArray, List.set_cons_zero, List.set_cons_succ] at hS'; subst hS'))
        -- 6 38:extract
        (refine Lin.walk_pure ?_ (by kernel_rfl) (by kernel_rfl) (by rfl) ?_ ?_; rotate_left; (focus (intro w; (go_simp; (try go_ints); (try simp only [IntWalk.iteOmega]); (try go_simp); try with_reducible rfl))); (intro S' hS'; simp only [Act.put, List.setIfInBounds_toArray, List.set_cons_zero, List.set_cons_succ] at hS'; subst hS'))
        -- 7 39:extract
        (refine Lin.walk_pure ?_ (by kernel_rfl) (by kernel_rfl) (by rfl) ?_ ?_; rotate_left; (focus (intro w; (go_simp; (try go_ints); (try simp only [IntWalk.iteOmega]); (try go_simp); try with_reducible rfl))); (intro S' hS'; simp only [Act.put, List.setIfInBounds_toArray, List.set_cons_zero, List.set_cons_succ] at hS'; subst hS'))
        -- 8 -:store
        (refine Lin.walk_last [] undef (by kernel_rfl) rfl (by kernel_rfl) (fun _ => by rfl) ?_ ?_; (focus (intro f w1 hF hC hI; dsimp only at hC hI; clear hF; have hI1 : Row w1 (w.heap.size + 1) 0 (wcells hj0) := hI.1; refine gives_storeRow 37 (.tmp 3) (.tmp 38) rfl (w.heap.size + 1) 0 (wcells hj0) (wcells hj1) rfl (by show Value.agg av1 = _; rw [HH.out.2.2.2.2.2.1]) hI1 8 size8 (by rw [wcells_length]; exact HH.out.2.2.2.2.2.2.1) (by rw [wcells_length]; exact HH.out.2.2.2.2.2.2.2) (wcells_one _) (fun w2 h1 h2 h3 h4 => ⟨rfl, h4, h1, hI.2.1.keep h4 HG.out, hI.2.2.1.keep h4 (fun k hk e => by cases hk; omega), hI.2.2.2.keep h4 (fun k hk e => by cases hk; omega)⟩))); (intro S' hS'; simp only [Act.put] at hS'; subst hS'))
        (refine Lin.walk_end0 rfl ?_; intro W' hC hI)
        replace C7 := C7.trans hC (fun j hj e => by omega)
        replace B0b := B0b.keep hC (fun e => by omega)
        have R2 : Row W' (w.heap.size + 1) 0 (wcells hj1) := hI.1
        obtain ⟨_, KTb, hRb, _⟩ := hI
        clear hC
        have hcp64 : 64 ≤ cp := by omega
        have fin : ∀ ao', (64 < cp → ao' = some ⟨B, o + 64, none⟩) → ∃ j' ao cp', j' ≤ n ∧ Value.slice ao' (ln - 64) (cp - 64) = .slice ao (64 * (n - j')) cp' ∧ (j' < n → ao = some ⟨B, 64 * j', none⟩ ∧ cp' = cap1 - 64 * j' ∧ 64 * (n - j') ≤ cp') ∧ Srow W' 1 (some ⟨B, 0, none⟩) (64 * n) cap1 (cellsOf X) (some B) ∧ Row W' (w.heap.size + 1) 0 (wcells (run h0 X j')) ∧ KTab W' ∧ OnlyNew w W' ∧ Row W' w.heap.size 0 (cellsOf (List.replicate 32 0)) := by
          intro ao' hao'
          obtain ⟨h1, h2, h3⟩ := HO.out
          refine ⟨j + 1, ao', cp - 64, by omega, by rw [h2, show 64 * (n - j) - 64 = 64 * (n - (j + 1)) by omega], fun hn' => ⟨?_, by omega, by omega⟩, hRb, by rw [← HH.out.2.2.1]; exact R2, KTb, C7, B0b⟩
          rw [hao' (HOS.out hn'), h1, show 64 * j + 64 = 64 * (j + 1) by omega]
        have FIN := Lib.hid fin
        clear fin hRb R2 KTb
        by_cases hcpe : cp = 64
        · subst hcpe
          go_wp2
          go_roundw
          case rel =>
            have hfin := FIN.out (some ⟨B, o, none⟩) (fun h => by omega)
            rw [show ln - 64 = 0 by omega] at hfin
            exact hfin
          case measure => simp; omega
        · go_wp2
          go_roundw
          case rel => exact FIN.out _ (fun h => rfl)
          case measure => simp; omega
      · obtain rfl : j = n := by omega
        have hsh := H1.out.2.2.2.1
        have hl1 : (run h0 X j).length = 8 := by rw [run_length]; exact H1.out.2.2.2.2.2.2.1
        obtain ⟨hf, hhf⟩ : ∃ hf, hf = run h0 X j := ⟨_, rfl⟩
        rw [← hhf] at B1b hsh hl1
        obtain ⟨av, hav⟩ : ∃ av, av = (wcells hf).toArray := ⟨_, rfl⟩
        have HAV := Lib.hid (⟨hav, hsh, hl1⟩ : _ ∧ _ ∧ _)
        clear hav hsh hl1 hao hRb KTb
        have hBr := Row.lt B1b (by rw [wcells_length, HAV.out.2.2]; omega)
        go_wp2_with (first
          | (refine wpList_loadRow rfl 37 (.tmp 3) rfl (w.heap.size + 1) 0 rfl (wcells hf) B1b _ Tryd.underlying37 rfl 8 size8 (by rw [wcells_length]; exact HAV.out.2.2) ?_; rw [← HAV.out.1])
          | (go_at_call 24; rw [HAV.out.1]; refine (bytes_any hf HAV.out.2.2 _).mono ?_; rintro e w9 ⟨rfl, c9⟩; rw [← HAV.out.2.1, ← H1.out.2.2.2.2.2.2.2.2.2.2.1])
          | (refine wpList_storeRow rfl 24 (.tmp 2) (.tmp 41) rfl w.heap.size 0 _ (cellsOf (sha t)) rfl (by show Value.agg rv = _; rw [H1.out.2.2.2.2.2.2.2.2.2.2.1]) (B0b.keep c9 (fun h => h)) 32 size32 rfl (by rw [cellsOf_length, sha_length]) (cellsOf_one _) ?_; intro w10 B10 _ _ c10))
        have C10 : OnlyNew w w10 := (C7.trans c9 (fun _ _ h => h)).trans c10 (fun j hj e => by omega)
        refine bodyPost_ret (v := .agg rv) ?_ rfl ⟨rfl, C10⟩
        rw [H1.out.2.2.2.2.2.2.2.2.2.2.1]
        exact results_cell_mid (p := 2) (ty := 24) rfl _ w10 w.heap.size 0 (cellsOf (sha t)) _ rfl B10.1 Tryd.underlying24 rfl (by rw [cellsOf_length, sha_length]; exact size32)
  · have hm0 : ((m : Int) == 0) = false := by simp; omega
    have H0 := Lib.hid hmz
    clear hmz
    go_enter Tryd.func17, Tryd.ntmps17
    go_wp2_with (first
      | (refine wpList_loadRow rfl 37 (.tmp 7) rfl p 0 rfl (wcells h) ((Row.left (xs := wcells h) H1.out.2.2.2.2.2.2.2.2.2.2.2.1).alloc _) _ Tryd.underlying37 rfl 8 size8 HW8.out ?_; rw [← H1.out.2.2.2.2.2.2.2.2.2.1])
      | (refine wpList_storeRow rfl 37 (.tmp 3) (.tmp 8) rfl (w.heap.size + 1) 0 _ (wcells h) rfl (by show Value.agg hv = _; rw [H1.out.2.2.2.2.2.2.2.2.2.1]) (Row.newAt _ _ _ _ _ (by simp) rfl) 8 size8 rfl HW8.out (wcells_one h) ?_; intro w2 B1 _ _ c2; have B0 := ((Row.newAt w _ 24 (cellsOf (List.replicate 32 0)) w.heap.size rfl rfl).alloc _).keep c2 (fun e => by omega); have C2 : OnlyNew w w2 := (((Chgd.refl (fun _ => False) w).alloc _).alloc _).trans c2 (fun j hj e => by omega); replace c8 := C2.at_ c8 (fun h => h); replace c9 := C2.at_ c9 (fun h => h)))
    rw [H1.out.2.2.2.2.1 H0.out] at B1 HW8
    have hpr := H1.out.2.2.1
    have hXn := H1.out.1
    have HXX := Lib.hid (⟨hpr, hXn⟩ : _ ∧ _)
    clear hpr hXn
    go_wp2_with (first
      | (go_at_call 22; rw [H1.out.2.2.2.2.2.2.2.1]; refine (pad_any rest (by omega) _).mono ?_; rintro e w4 ⟨rfl, c4⟩; rw [← H1.out.2.2.2.2.2.2.2.2.1]; replace C2 := C2.trans c4 (fun _ _ h => h); replace B1 := B1.keep c4 (fun h => h); replace B0 := B0.keep c4 (fun h => h); replace c9 := c4.at_ c9 (fun h => h); clear c4)
      | (refine wpList_bytes rfl 9 27 (.tmp 19) rfl 5 Tryd.underlying9 Tryd.underlying27 Tryd.underlying5 (pad rest) (by rw [HXX.out.1, HXX.out.2]; omega) (by show Value.string pb = _; rw [H1.out.2.2.2.2.2.2.2.2.1]) ?_; intro B cap1 w5 hR5 c5 hB5; replace C2 := C2.trans c5 (fun _ _ h => h); have hBb := Nat.lt_of_lt_of_le (B1.lt (by rw [HW8.out]; omega)) hB5; replace B1 := B1.keep c5 (fun h => h); replace B0 := B0.keep c5 (fun h => h); replace c9 := c5.at_ c9 (fun h => h); clear c5)
      | (go_at_call 23; refine (length_any (pad rest) (by rw [HXX.out.1, HXX.out.2]; omega) (by rw [HXX.out.1, HXX.out.2]; omega) B 0 cap1 m (by omega) _ hR5).mono ?_; rintro e w6 ⟨rfl, hR6, c6⟩; rw [H1.out.2.1] at hR6; replace C2 := C2.trans c6 (fun j hj e => by omega); replace B1 := B1.keep c6 (fun e => by omega); replace B0 := B0.keep c6 (fun e => by omega)))
    have hPl64 : (pad rest).length = 64 * n := by rw [HXX.out.1, HXX.out.2]
    rw [hPl64] at hR6 ⊢
    have KX := HK.out.keep C2 (fun h => h)
    clear hPl64 hR5
    obtain ⟨w7, rfl⟩ : ∃ x : World, x = w6 := ⟨_, rfl⟩
    clear c8 c9
    go_loopw [4] (fun v wr => ∃ j ao cp, j ≤ n ∧ v = .slice ao (64 * (n - j)) cp ∧ (j < n → ao = some ⟨B, 64 * j, none⟩ ∧ cp = cap1 - 64 * j ∧ 64 * (n - j) ≤ cp) ∧ Srow wr 1 (some ⟨B, 0, none⟩) (64 * n) cap1 (cellsOf X) (some B) ∧ Row wr (w.heap.size + 1) 0 (wcells (run h0 X j)) ∧ KTab wr ∧ OnlyNew w wr ∧ Row wr w.heap.size 0 (cellsOf (List.replicate 32 0)))
      (fun v _ => match v with | .slice _ l _ => l | _ => 0)
    case atStart => exact ⟨0, some ⟨B, 0, none⟩, cap1, Nat.zero_le _, rfl, fun _ => ⟨rfl, rfl, hR6.len.2⟩, hR6, B1, KX, C2, B0⟩
    case round =>
      obtain ⟨j, ao, cp, hj, rfl, hao, hRb, B1b, KTb, C7, B0b⟩ := hrel
      by_cases hlt : j < n
      · obtain ⟨rfl, hcp, hcl⟩ := hao hlt
        obtain ⟨o, ho⟩ : ∃ o, o = 64 * j := ⟨_, rfl⟩
        obtain ⟨ln, hln⟩ : ∃ ln, ln = 64 * (n - j) := ⟨_, rfl⟩
        rw [← ho] at hcp ⊢
        rw [← hln] at hcl ⊢
        have hln1 : 64 ≤ ln := by omega
        have hln2 : ln ≤ 192 := by omega
        have hsub := Srow.sub hRb o 64 (by omega)
        rw [Nat.zero_add, cellsOf_sub, ← hcp] at hsub
        obtain ⟨Bk, hBk⟩ : ∃ Bk, Bk = (X.drop o).take 64 := ⟨_, rfl⟩
        rw [← hBk] at hsub
        have hBkl : Bk.length = 64 := by have := hsub.len.1; rw [cellsOf_length] at this; omega
        obtain ⟨b64, hb64⟩ : ∃ b64, b64 = bstr Bk := ⟨_, rfl⟩
        obtain ⟨hj0, hhj0⟩ : ∃ hj0, hj0 = run h0 X j := ⟨_, rfl⟩
        obtain ⟨hj1, hhj1⟩ : ∃ hj1, hj1 = comp hj0 Bk := ⟨_, rfl⟩
        have hnext : hj1 = run h0 X (j + 1) := by rw [hhj1, hhj0, hBk, ho, run_snoc]
        obtain ⟨av, hav⟩ : ∃ av, av = (wcells hj0).toArray := ⟨_, rfl⟩
        obtain ⟨av1, hav1⟩ : ∃ av1, av1 = (wcells hj1).toArray := ⟨_, rfl⟩
        have hl0 : hj0.length = 8 := by rw [hhj0, run_length]; exact H1.out.2.2.2.2.2.2.1
        have hl1 : hj1.length = 8 := by rw [hnext, run_length]; exact H1.out.2.2.2.2.2.2.1
        rw [← hhj0] at B1b
        have hos : j + 1 < n → 64 < cp := fun h => by omega
        have HH := Lib.hid (⟨hBkl, hhj1, hnext, hb64, hav, hav1, hl0, hl1⟩ : _ ∧ _ ∧ _ ∧ _ ∧ _ ∧ _ ∧ _ ∧ _)
        have HO := Lib.hid (⟨ho, hln, hcp⟩ : _ ∧ _ ∧ _)
        have HRb := Lib.hid hRb
        have HSb := Lib.hid hsub
        have HB1 := Lib.hid B1b
        have HKT := Lib.hid KTb
        have HOS := Lib.hid hos
        clear hBkl hhj1 hnext hb64 hav hav1 hl0 hl1 ho hln hcp hRb hsub B1b KTb hhj0 hBk hao hos
        go_wp2
        refine Lin.region_lin [0, 0, 2, 6, 15, 31, 63, 63, 127] [] [8] (fun k => k = w.heap.size + 1) (fun e w' => Row w' (w.heap.size + 1) 0 (wcells (two hj0 hj1 e)) ∧ KTab w' ∧ Srow w' 1 (some ⟨B, 0, none⟩) (64 * n) cap1 (cellsOf X) (some B) ∧ Srow w' 1 (some ⟨B, o, none⟩) 64 cp (cellsOf Bk) (some B)) _ (by kernel_rfl) rfl (by kernel_rfl) (⟨HB1.out.drew, HKT.out.keep (Chgd.refl (fun _ => False) _).drew (fun h => h), HRb.out.keep (Chgd.refl (fun _ => False) _).drew (fun _ _ h => h), HSb.out.keep (Chgd.refl (fun _ => False) _).drew (fun _ _ h => h)⟩) ?_
        -- 0 33:load
        (refine Lin.walk_read (.agg av) (by kernel_rfl) (by kernel_rfl) (by kernel_rfl) (by rfl) ?_ ?_; (focus (intro w1 hC hI; rw [HH.out.2.2.2.2.1]; exact exec_loadRow 37 (.tmp 3) rfl (w.heap.size + 1) 0 rfl (wcells hj0) hI.1 _ Tryd.underlying37 rfl 8 size8 (by rw [wcells_length]; exact HH.out.2.2.2.2.2.2.1))); (intro S' hS'; simp only [Act.put, List.setIfInBounds_toArray, List.set_cons_zero, List.set_cons_succ] at hS'; subst hS'))
        -- 1 34:move
        (refine Lin.walk_pure ?_ (by kernel_rfl) (by kernel_rfl) (by rfl) ?_ ?_; rotate_left; (focus (intro w; (go_simp; (try go_ints); (try simp only [IntWalk.iteOmega]); (try go_simp); try with_reducible rfl))); (intro S' hS'; simp only [Act.put, List.setIfInBounds_toArray, List.set_cons_zero, List.set_cons_succ] at hS'; subst hS'))
        -- 2 35:slice
        (refine Lin.walk_pure ?_ (by kernel_rfl) (by kernel_rfl) (by rfl) ?_ ?_; rotate_left; (focus (intro w; (go_simp; (try go_ints); (try simp only [IntWalk.iteOmega]); (try go_simp); try with_reducible rfl))); (intro S' hS'; simp only [Act.put, List.setIfInBounds_toArray, List.set_cons_zero, List.set_cons_succ] at hS'; subst hS'))
        -- 3 36:convert
        (refine Lin.walk_read (.string b64) (by kernel_rfl) (by kernel_rfl) (by kernel_rfl) (by rfl) ?_ ?_; (focus (intro w1 hC hI; have hcv := hI.2.2.2.to_string Tryd.underlying27 Tryd.underlying5 Tryd.underlying9; rw [← HH.out.2.2.2.1] at hcv; go_simp)); (intro S' hS'; simp only [Act.put, List.setIfInBounds_toArray, List.set_cons_zero, List.set_cons_succ] at hS'; subst hS'))
        -- 4 37:call!
        (refine Lin.walk_call (.tuple #[.agg av1, .bool true]) (by kernel_rfl) (by kernel_rfl) (by kernel_rfl) (by rfl) ?_ ?_; (focus (intro w1 hC hI; dsimp only at hC hI; go_simp; have c := comp_any hj0 HH.out.2.2.2.2.2.2.1 Bk HH.out.1 w1 hI.2.1; rw [← HH.out.2.1, ← HH.out.2.2.2.1, ← HH.out.2.2.2.2.1, ← HH.out.2.2.2.2.2.1] at c; exact Calls.mono c (by rintro e w2 ⟨rfl, hN⟩; exact ⟨_, rfl, rfl, hN.mono (fun _ _ h => h.elim), hI.1.keep hN (fun h => h), hI.2.1.keep hN (fun h => h), hI.2.2.1.keep hN (fun _ _ h => h), hI.2.2.2.keep hN (fun _ _ h => h)⟩))); (intro S' hS'; simp only [Act.put, List.setIfInBounds_toArray, List.set_cons_zero, List.set_cons_succ] at hS'; subst hS'))
        -- 5 32:move
        (refine Lin.walk_pure ?_ (by kernel_rfl) (by kernel_rfl) (by rfl) ?_ ?_; rotate_left; (focus (intro w; (go_simp; (try go_ints); (try simp only [IntWalk.iteOmega]); (try go_simp); try with_reducible rfl))); (intro S' hS'; simp only [Act.put, List.setIfInBounds_toArray, List.set_cons_zero, List.set_cons_succ] at hS'; subst hS'))
        -- 6 38:extract
        (refine Lin.walk_pure ?_ (by kernel_rfl) (by kernel_rfl) (by rfl) ?_ ?_; rotate_left; (focus (intro w; (go_simp; (try go_ints); (try simp only [IntWalk.iteOmega]); (try go_simp); try with_reducible rfl))); (intro S' hS'; simp only [Act.put, List.setIfInBounds_toArray, List.set_cons_zero, List.set_cons_succ] at hS'; subst hS'))
        -- 7 39:extract
        (refine Lin.walk_pure ?_ (by kernel_rfl) (by kernel_rfl) (by rfl) ?_ ?_; rotate_left; (focus (intro w; (go_simp; (try go_ints); (try simp only [IntWalk.iteOmega]); (try go_simp); try with_reducible rfl))); (intro S' hS'; simp only [Act.put, List.setIfInBounds_toArray, List.set_cons_zero, List.set_cons_succ] at hS'; subst hS'))
        -- 8 -:store
        (refine Lin.walk_last [] undef (by kernel_rfl) rfl (by kernel_rfl) (fun _ => by rfl) ?_ ?_; (focus (intro f w1 hF hC hI; dsimp only at hC hI; clear hF; have hI1 : Row w1 (w.heap.size + 1) 0 (wcells hj0) := hI.1; refine gives_storeRow 37 (.tmp 3) (.tmp 38) rfl (w.heap.size + 1) 0 (wcells hj0) (wcells hj1) rfl (by show Value.agg av1 = _; rw [HH.out.2.2.2.2.2.1]) hI1 8 size8 (by rw [wcells_length]; exact HH.out.2.2.2.2.2.2.1) (by rw [wcells_length]; exact HH.out.2.2.2.2.2.2.2) (wcells_one _) (fun w2 h1 h2 h3 h4 => ⟨rfl, h4, h1, hI.2.1.keep h4 HG.out, hI.2.2.1.keep h4 (fun k hk e => by cases hk; omega), hI.2.2.2.keep h4 (fun k hk e => by cases hk; omega)⟩))); (intro S' hS'; simp only [Act.put] at hS'; subst hS'))
        (refine Lin.walk_end0 rfl ?_; intro W' hC hI)
        replace C7 := C7.trans hC (fun j hj e => by omega)
        replace B0b := B0b.keep hC (fun e => by omega)
        have R2 : Row W' (w.heap.size + 1) 0 (wcells hj1) := hI.1
        obtain ⟨_, KTb, hRb, _⟩ := hI
        clear hC
        have hcp64 : 64 ≤ cp := by omega
        have fin : ∀ ao', (64 < cp → ao' = some ⟨B, o + 64, none⟩) → ∃ j' ao cp', j' ≤ n ∧ Value.slice ao' (ln - 64) (cp - 64) = .slice ao (64 * (n - j')) cp' ∧ (j' < n → ao = some ⟨B, 64 * j', none⟩ ∧ cp' = cap1 - 64 * j' ∧ 64 * (n - j') ≤ cp') ∧ Srow W' 1 (some ⟨B, 0, none⟩) (64 * n) cap1 (cellsOf X) (some B) ∧ Row W' (w.heap.size + 1) 0 (wcells (run h0 X j')) ∧ KTab W' ∧ OnlyNew w W' ∧ Row W' w.heap.size 0 (cellsOf (List.replicate 32 0)) := by
          intro ao' hao'
          obtain ⟨h1, h2, h3⟩ := HO.out
          refine ⟨j + 1, ao', cp - 64, by omega, by rw [h2, show 64 * (n - j) - 64 = 64 * (n - (j + 1)) by omega], fun hn' => ⟨?_, by omega, by omega⟩, hRb, by rw [← HH.out.2.2.1]; exact R2, KTb, C7, B0b⟩
          rw [hao' (HOS.out hn'), h1, show 64 * j + 64 = 64 * (j + 1) by omega]
        have FIN := Lib.hid fin
        clear fin hRb R2 KTb
        by_cases hcpe : cp = 64
        · subst hcpe
          go_wp2
          go_roundw
          case rel =>
            have hfin := FIN.out (some ⟨B, o, none⟩) (fun h => by omega)
            rw [show ln - 64 = 0 by omega] at hfin
            exact hfin
          case measure => simp; omega
        · go_wp2
          go_roundw
          case rel => exact FIN.out _ (fun h => rfl)
          case measure => simp; omega
      · obtain rfl : j = n := by omega
        have hsh := H1.out.2.2.2.1
        have hl1 : (run h0 X j).length = 8 := by rw [run_length]; exact H1.out.2.2.2.2.2.2.1
        obtain ⟨hf, hhf⟩ : ∃ hf, hf = run h0 X j := ⟨_, rfl⟩
        rw [← hhf] at B1b hsh hl1
        obtain ⟨av, hav⟩ : ∃ av, av = (wcells hf).toArray := ⟨_, rfl⟩
        have HAV := Lib.hid (⟨hav, hsh, hl1⟩ : _ ∧ _ ∧ _)
        clear hav hsh hl1 hao hRb KTb
        have hBr := Row.lt B1b (by rw [wcells_length, HAV.out.2.2]; omega)
        go_wp2_with (first
          | (refine wpList_loadRow rfl 37 (.tmp 3) rfl (w.heap.size + 1) 0 rfl (wcells hf) B1b _ Tryd.underlying37 rfl 8 size8 (by rw [wcells_length]; exact HAV.out.2.2) ?_; rw [← HAV.out.1])
          | (go_at_call 24; rw [HAV.out.1]; refine (bytes_any hf HAV.out.2.2 _).mono ?_; rintro e w9 ⟨rfl, c9⟩; rw [← HAV.out.2.1, ← H1.out.2.2.2.2.2.2.2.2.2.2.1])
          | (refine wpList_storeRow rfl 24 (.tmp 2) (.tmp 41) rfl w.heap.size 0 _ (cellsOf (sha t)) rfl (by show Value.agg rv = _; rw [H1.out.2.2.2.2.2.2.2.2.2.2.1]) (B0b.keep c9 (fun h => h)) 32 size32 rfl (by rw [cellsOf_length, sha_length]) (cellsOf_one _) ?_; intro w10 B10 _ _ c10))
        have C10 : OnlyNew w w10 := (C7.trans c9 (fun _ _ h => h)).trans c10 (fun j hj e => by omega)
        refine bodyPost_ret (v := .agg rv) ?_ rfl ⟨rfl, C10⟩
        rw [H1.out.2.2.2.2.2.2.2.2.2.2.1]
        exact results_cell_mid (p := 2) (ty := 24) rfl _ w10 w.heap.size 0 (cellsOf (sha t)) _ rfl B10.1 Tryd.underlying24 rfl (by rw [cellsOf_length, sha_length]; exact size32)

theorem stm_zero (w : World) (t : TypeId) (cs : Array Value) (hcs : cs.toList = stmCells (List.replicate 8 0) [] 0) (p : Nat) (hp : p = w.heap.size) : Stm (w.alloc (.cells cs t)) p [] :=
  ⟨List.replicate 8 0, rfl, fun h => absurd rfl h, Row.newAt w cs t _ _ hp hcs⟩
set_option maxHeartbeats 1000000 in
theorem sha_any (s : List UInt8) (hl : s.length ≤ 1000000000000) (w : World) (hKT : KTab w) :
    Calls Tryd.prog 9 #[.string (bstr s)] w fun r w' => r = .returned (.agg (cellsOf (sha s)).toArray) ∧ OnlyNew w w' := by
  obtain ⟨b, hb⟩ : ∃ b, b = bstr s := ⟨_, rfl⟩
  rw [← hb]
  obtain ⟨rv, hrv⟩ : ∃ rv, rv = (cellsOf (sha s)).toArray := ⟨_, rfl⟩
  rw [← hrv]
  have HB := Lib.hid (⟨hb, hrv⟩ : _ ∧ _)
  have HK := Lib.hid hKT
  clear hb hrv hKT
  go_enter Tryd.func9, Tryd.ntmps9
  go_wp2_with (first
    | (go_at_call 16; rw [HB.out.1]; refine (write_any (w.heap.size + 1) [] s (by simpa using hl) _ ((HK.out.keep ((Chgd.refl (fun _ => False) w).alloc _) (fun h => h)).keep ((Chgd.refl (fun _ => False) _).alloc _) (fun h => h)) (stm_zero _ _ _ rfl _ (by simp))).mono ?_; rintro e w2 ⟨rfl, S2, c2⟩; rw [List.nil_append] at S2; have C2 : OnlyNew w w2 := (((Chgd.refl (fun _ => False) w).alloc _).alloc _).trans c2 (fun j hj e => by omega); have B0 := ((Row.newAt w _ 24 (cellsOf (List.replicate 32 0)) w.heap.size rfl rfl).alloc _).keep c2 (fun e => by omega); clear c2)
    | (go_at_call 17; refine (sum_any (w.heap.size + 1) s hl _ (HK.out.keep C2 (fun h => h)) S2).mono ?_; rintro e w3 ⟨rfl, c3⟩; rw [← HB.out.2]; replace B0 := B0.keep c3 (fun h => h); replace C2 := C2.trans c3 (fun _ _ h => h); clear c3)
    | (refine wpList_storeRow rfl 24 (.tmp 2) (.tmp 10) rfl w.heap.size 0 _ (cellsOf (sha s)) rfl (by show Value.agg rv = _; rw [HB.out.2]) B0 32 size32 rfl (by rw [cellsOf_length, sha_length]) (cellsOf_one _) ?_; intro w4 B4 _ _ c4))
  refine bodyPost_ret (v := .agg rv) ?_ rfl ⟨rfl, C2.trans c4 (fun j hj e => by omega)⟩
  rw [HB.out.2]
  exact results_cell_mid (p := 2) (ty := 24) rfl _ w4 w.heap.size 0 (cellsOf (sha s)) _ rfl B4.1 Tryd.underlying24 rfl (by rw [cellsOf_length, sha_length]; exact size32)
end Go.Proofs.YtomalanncdcopaaDoor.Dig
