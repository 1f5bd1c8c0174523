/- The walk of DigestFolds. -/
import Derived.Test.YtgcambjoeaijkaaDoorDigL2
import Derived.Deep.Cut
namespace Go.Proofs.YtgcambjoeaijkaaDoor.Dig
open Go Go.RowKit Go.Proofs.YtgcambjoeaijkaaDoor.Mem

theorem outs_get (h : List Word) : ∀ n k, k < n → n ≤ 32 → (outs h n)[k]? = some (outAt h k)
  | 0, k, hk, _ => by omega
  | n + 1, k, hk, hn => by
    rw [outs]
    by_cases e : n = k
    · subst e
      rw [List.getElem?_set_self (by rw [outs_length]; omega)]
    · rw [List.getElem?_set_ne e]
      exact outs_get h n k (by omega) (by omega)

set_option maxRecDepth 100000 in
set_option maxHeartbeats 2000000 in
theorem folds_law (l : List UInt8) (hl : l.length ≤ 140737488351232) (w : World) (hKT : KTab w) :
    Calls Tryd.prog 7 #[.string (bstr l)] w fun r w' => r = .returned (.bool true) ∧ OnlyNew w w' := by
  have hsz := bstr_size l
  obtain ⟨b, hb⟩ : ∃ b, b = bstr l := ⟨_, rfl⟩
  rw [← hb] at hsz ⊢
  have HK := Lib.hid hKT
  clear hKT
  by_cases h600 : 600 < l.length
  · have hb1 : 600 < b.size := by omega
    have hb2 : b.size ≤ 140737488351232 := by omega
    clear hsz hb hl h600
    go_enter Tryd.func7, Tryd.ntmps7
    go_wp2_with (go_at_call 8; refine (shown_any _ HK.out).mono ?_; rintro e w1 ⟨rfl, c1⟩)
    go_ret
    exact ⟨rfl, c1⟩
  · have hb1 : b.size ≤ 600 := by omega
    obtain ⟨sv, hsv⟩ : ∃ sv, sv = (cellsOf (sha l)).toArray := ⟨_, rfl⟩
    obtain ⟨X, hX⟩ : ∃ X, X = pad l := ⟨_, rfl⟩
    obtain ⟨n, hn⟩ : ∃ n, n = X.length / 64 := ⟨_, rfl⟩
    have hXn : X.length = 64 * n := by
      rw [hn, hX, pad_length]
      have := zeros_hit l.length
      omega
    have hn1 : n ≤ 100 := by
      have := zeros_lt l.length
      have := pad_length l
      rw [← hX] at this
      omega
    have hsha : sha l = hashOf (run iv X n) := by rw [sha, hn, hX]
    obtain ⟨P, hP⟩ : ∃ P, P = bstr X := ⟨_, rfl⟩
    have hPs : P.size = 64 * n := by rw [hP, bstr_size, hXn]
    have H1 := Lib.hid (⟨hb, hsv, hX, hsha, hP, hXn⟩ : _ ∧ _ ∧ _ ∧ _ ∧ _ ∧ _)
    have HPS := Lib.hid hPs
    have hl2 := Lib.hid (show l.length ≤ 600 by omega)
    clear hb hsv hsz h600 hl hX hsha hP hn hXn hPs
    go_enter Tryd.func7, Tryd.ntmps7
    go_wp2_with (first
      | (go_at_call 8; refine (shown_any _ HK.out).mono ?_; rintro e w1 ⟨rfl, c1⟩)
      | (refine wpList_storeRow rfl 29 (.tmp 3) (.tmp 18) rfl w1.heap.size 0 _ (wcells iv) rfl rfl (Row.newAt _ _ _ _ _ (by simp) rfl) 8 size8 rfl rfl (wcells_one _) ?_; intro w2 B3 z1 z2 c2; clear z1 z2; have C1 : OnlyNew w w2 := (c1.alloc _).trans c2 (fun j hj e => by have := c1.size; omega); clear c2)
      | (go_at_call 11; rw [H1.out.1]; refine (pad_any l (by have := hl2.out; omega) _).mono ?_; rintro e w4 ⟨rfl, c4⟩; rw [← H1.out.1, ← H1.out.2.2.1, ← H1.out.2.2.2.2.1]; replace B3 := B3.keep c4 (fun h => h); replace C1 := C1.trans c4 (fun _ _ h => h); clear c4))
    obtain ⟨hh, hhh⟩ : ∃ hh, hh = w1.heap.size := ⟨_, rfl⟩
    have hw1 : w.heap.size ≤ hh := by rw [hhh]; exact c1.size
    rw [← hhh] at B3 ⊢
    have HW1 := Lib.hid hw1
    have HN1 := Lib.hid hn1
    clear c1 hhh hw1 hn1
    generalize Value.agg #[Value.int .u32 1779033703, Value.int .u32 3144134277, Value.int .u32 1013904242, Value.int .u32 2773480762, Value.int .u32 1359893119, Value.int .u32 2600822924, Value.int .u32 528734635, Value.int .u32 1541459225] = yy
    generalize decide (600 < (b.size : Int)) = gg
    obtain ⟨w3, rfl⟩ : ∃ x : World, x = w4 := ⟨_, rfl⟩
    go_loopw [5] (fun i wr => ∃ j : Nat, j ≤ n ∧ i = .int .i64 (64 * j : Nat) ∧ Row wr hh 0 (wcells (run iv X j)) ∧ OnlyNew w wr) (fun i _ => 64 * n - (intOf i).toNat)
    case atStart => exact ⟨0, Nat.zero_le _, rfl, B3, C1⟩
    case round =>
      obtain ⟨j, hj, rfl, B3a, C2⟩ := hrel
      clear B3 C1
      by_cases hlt : j < n
      ·
        obtain ⟨o, ho⟩ : ∃ o, o = 64 * j := ⟨_, rfl⟩
        rw [← ho]
        have hPS := HPS.out
        have ho1 : o + 64 ≤ P.size := by omega
        have ho2 : P.size ≤ 6400 := by have := HN1.out; omega
        obtain ⟨Bk, hBk⟩ : ∃ Bk, Bk = (X.drop o).take 64 := ⟨_, rfl⟩
        have hBkl : Bk.length = 64 := by rw [hBk, List.length_take, List.length_drop, H1.out.2.2.2.2.2]; omega
        obtain ⟨b64, hb64⟩ : ∃ b64, b64 = bstr Bk := ⟨_, rfl⟩
        have hx1 : P.extract o (o + 64) = b64 := by
          rw [H1.out.2.2.2.2.1, hb64, hBk]
          apply ByteArray.ext
          simp [bstr, ByteArray.data_extract, List.extract_eq_take_drop]
        obtain ⟨hj0, hhj0⟩ : ∃ hj0, hj0 = run iv X j := ⟨_, rfl⟩
        obtain ⟨hj1, hhj1⟩ : ∃ hj1, hj1 = comp hj0 Bk := ⟨_, rfl⟩
        have hnext : hj1 = run iv X (j + 1) := by rw [hhj1, hhj0, hBk, ho, run_snoc]
        obtain ⟨av, hav⟩ : ∃ av, av = (wcells hj0).toArray := ⟨_, rfl⟩
        obtain ⟨av1, hav1⟩ : ∃ av1, av1 = (wcells hj1).toArray := ⟨_, rfl⟩
        have hl0 : hj0.length = 8 := by rw [hhj0, run_length]; rfl
        have hl1 : hj1.length = 8 := by rw [hnext, run_length]; rfl
        rw [← hhj0] at B3a
        have HH := Lib.hid (⟨hBkl, hhj1, hnext, hb64, hav, hav1, hl0, hl1⟩ : _ ∧ _ ∧ _ ∧ _ ∧ _ ∧ _ ∧ _ ∧ _)
        have HX1 := Lib.hid hx1
        have HO := Lib.hid (⟨ho, hPS⟩ : _ ∧ _)
        have HKr := Lib.hid (HK.out.keep C2 (fun h => h))
        clear hBkl hhj1 hnext hb64 hav hav1 hl0 hl1 hhj0 hBk ho hx1 hPS
        have HB3L := Lib.hid (B3a.lt (by rw [wcells_length, HH.out.2.2.2.2.2.2.1]; omega))
        go_wp2_with fail
        have hx1 := HX1.out
        refine Lin2.region_lin [0, 0, 0, 0, 8, 30, 63, 127, 255, 255, 0, 1535, 4095] [10] [11] (fun _ => False) (fun _ w' => Row w' hh 0 (wcells hj0)) (fun _ _ _ h hc => h.keep hc (fun h => h)) _ (by kernel_rfl) rfl (by kernel_rfl) (B3a.drew) ?_
        -- 0 29:load
        (refine Lin2.walk_read (.agg av) 0 0 (by kernel_rfl) (by kernel_rfl) (by kernel_rfl) (by kernel_rfl) (by rfl) ?_ ?_; (focus (intro w1 k1 hC hk1 hk2 hI; obtain rfl : k1 = 0 := (by omega); dsimp only at hC hI; rw [HH.out.2.2.2.2.1]; exact exec_loadRow 29 (.tmp 3) rfl hh 0 rfl (wcells hj0) hI _ Tryd.underlying29 rfl 8 size8 (by rw [wcells_length]; exact HH.out.2.2.2.2.2.2.1))); (intro S' hS'; simp only [Act.put, List.setIfInBounds_toArray, List.set_cons_zero, List.set_cons_succ] at hS'; subst hS'))
        -- 1 30:move
        (refine Lin2.walk_pure ?_ (by kernel_rfl) (by kernel_rfl) (by rfl) ?_ ?_; rotate_left; (focus (intro w; (go_simp; (try go_ints); (try simp only [IntWalk.iteOmega]); (try go_simp); try with_reducible rfl))); (intro S' hS'; simp only [Act.put, List.setIfInBounds_toArray, List.set_cons_zero, List.set_cons_succ] at hS'; subst hS'))
        -- 2 31:move
        (refine Lin2.walk_pure ?_ (by kernel_rfl) (by kernel_rfl) (by rfl) ?_ ?_; rotate_left; (focus (intro w; (go_simp; (try go_ints); (try simp only [IntWalk.iteOmega]); (try go_simp); try with_reducible rfl))); (intro S' hS'; simp only [Act.put, List.setIfInBounds_toArray, List.set_cons_zero, List.set_cons_succ] at hS'; subst hS'))
        -- 3 32:move
        (refine Lin2.walk_pure ?_ (by kernel_rfl) (by kernel_rfl) (by rfl) ?_ ?_; rotate_left; (focus (intro w; (go_simp; (try go_ints); (try simp only [IntWalk.iteOmega]); (try go_simp); try with_reducible rfl))); (intro S' hS'; simp only [Act.put, List.setIfInBounds_toArray, List.set_cons_zero, List.set_cons_succ] at hS'; subst hS'))
        -- 4 33:binOp
        (refine Lin2.walk_pure ?_ (by kernel_rfl) (by kernel_rfl) (by rfl) ?_ ?_; rotate_left; (focus (intro w; (go_simp; (try go_ints); (try simp only [IntWalk.iteOmega]); (try go_simp); try with_reducible rfl))); (intro S' hS'; simp only [Act.put, List.setIfInBounds_toArray, List.set_cons_zero, List.set_cons_succ] at hS'; subst hS'))
        -- 5 34:slice
        (refine Lin2.walk_pure ?_ (by kernel_rfl) (by kernel_rfl) (by rfl) ?_ ?_; rotate_left; (focus (intro w; (go_simp; (try go_ints); (try simp only [IntWalk.iteOmega]); (try go_simp); try with_reducible rfl))); (intro S' hS'; simp only [Act.put, List.setIfInBounds_toArray, List.set_cons_zero, List.set_cons_succ] at hS'; subst hS'))
        -- 6 35:call!
        (refine Lin2.walk_call [] (.tuple #[.agg av1, .bool true]) 0 0 (by kernel_rfl) (by kernel_rfl) (by kernel_rfl) (by kernel_rfl) (fun _ => by rfl) ?_ ?_; (focus (intro f w1 k1 hF hC hk1 hk2 hI; obtain rfl : k1 = 0 := (by omega); dsimp only at hC hI; clear hF; simp only [Lin2.over_nil]; go_simp; have c := comp_any hj0 HH.out.2.2.2.2.2.2.1 Bk HH.out.1 w1 (HKr.out.keep hC (fun h => h)); rw [← HH.out.2.1, ← HH.out.2.2.2.1, ← HH.out.2.2.2.2.1, ← HH.out.2.2.2.2.2.1] at c; exact Calls.mono c (by rintro e w2 ⟨rfl, hN⟩; exact ⟨_, rfl, rfl, hN⟩))); (intro S' hS'; simp only [Act.put, List.setIfInBounds_toArray, List.set_cons_zero, List.set_cons_succ] at hS'; subst hS'))
        -- 7 28:move
        (refine Lin2.walk_pure ?_ (by kernel_rfl) (by kernel_rfl) (by rfl) ?_ ?_; rotate_left; (focus (intro w; (go_simp; (try go_ints); (try simp only [IntWalk.iteOmega]); (try go_simp); try with_reducible rfl))); (intro S' hS'; simp only [Act.put, List.setIfInBounds_toArray, List.set_cons_zero, List.set_cons_succ] at hS'; subst hS'))
        -- 8 36:extract
        (refine Lin2.walk_pure ?_ (by kernel_rfl) (by kernel_rfl) (by rfl) ?_ ?_; rotate_left; (focus (intro w; (go_simp; (try go_ints); (try simp only [IntWalk.iteOmega]); (try go_simp); try with_reducible rfl))); (intro S' hS'; simp only [Act.put, List.setIfInBounds_toArray, List.set_cons_zero, List.set_cons_succ] at hS'; subst hS'))
        -- 9 37:extract
        (refine Lin2.walk_pure ?_ (by kernel_rfl) (by kernel_rfl) (by rfl) ?_ ?_; rotate_left; (focus (intro w; (go_simp; (try go_ints); (try simp only [IntWalk.iteOmega]); (try go_simp); try with_reducible rfl))); (intro S' hS'; simp only [Act.put, List.setIfInBounds_toArray, List.set_cons_zero, List.set_cons_succ] at hS'; subst hS'))
        -- 10 6:alloc
        (refine Lin2.walk_fact [] 6 (Lin2.NewVar wr.heap.size (wcells zero8) (wcells hj1) 0) 0 0 (by kernel_rfl) (by kernel_rfl) rfl (by kernel_rfl) (by kernel_rfl) (by kernel_rfl) (by kernel_rfl) (by kernel_rfl) (fun _ => by rfl) (Lin2.NewVar.keep) ?_ ?_; (focus (intro f w1 k1 hF hC hk1 hk2 hI; obtain rfl : k1 = 0 := (by omega); dsimp only at hC hI; clear hF; simp only [Lin2.over_nil]; go_simp; exact ⟨⟨_, rfl, hC.size, Row.newAt _ _ _ _ _ rfl rfl⟩, (Chgd.refl _ _).alloc _⟩)); (intro S' hS'; simp only [Act.put, List.setIfInBounds_toArray, List.set_cons_zero, List.set_cons_succ] at hS'; subst hS'))
        -- 11 -:store
        (refine Lin2.walk_eff [6] (undef) 0 (by kernel_rfl) (by kernel_rfl) (by kernel_rfl) (by kernel_rfl) (fun _ => by rfl) ?_ ?_; (focus (intro f w1 hF hC hI; dsimp only at hC hI; obtain ⟨v', hv', B, rfl, hB, hRow⟩ : ∃ v, [f 6] = [v] ∧ Lin2.NewVar wr.heap.size (wcells zero8) (wcells hj1) 0 v w1 0 := hF 10 (by decide) (by kernel_rfl); have h64 := List.singleton_inj.1 hv'; clear hF hv'; exact Lin2.gives_old (gives_storeRow 29 (.tmp 6) (.tmp 36) rfl B 0 (wcells zero8) (wcells hj1) (by show f 6 = _; exact h64) (by show Value.agg av1 = _; rw [HH.out.2.2.2.2.2.1]) (show Row w1 B 0 (wcells zero8) from hRow) 8 size8 rfl (by rw [wcells_length]; exact HH.out.2.2.2.2.2.2.2) (wcells_one _) (fun w2 h1 h2 h3 h4 => ⟨rfl, hC.trans h4 (fun j hj e => by omega), hI.keep h4 (fun e => by have := HB3L.out; omega), fun i hi _ _ => by obtain rfl : i = 10 := (by simpa using hi); exact ⟨_, congrArg (fun x => [x]) h64, B, rfl, hB, h1⟩⟩)))); (intro S' hS'; simp only [Act.put] at hS'; subst hS'))
        -- 12 7:assign
        (refine Lin2.walk_pure ?_ (by kernel_rfl) (by kernel_rfl) (by rfl) ?_ ?_; rotate_left; (focus (intro w; (go_simp; (try go_ints); (try simp only [IntWalk.iteOmega]); (try go_simp); try with_reducible rfl))); (intro S' hS'; simp only [Act.put, List.setIfInBounds_toArray, List.set_cons_zero, List.set_cons_succ] at hS'; subst hS'))
        (refine Lin2.walk_end1 [6] (by kernel_rfl) ?_; intro f W' hF hC hI; dsimp only at hC hI; intro S' hS'; simp only [Lin2.over, List.foldl, Act.put, List.setIfInBounds_toArray, List.set_cons_zero, List.set_cons_succ] at hS'; subst hS')
        obtain ⟨v', hv', B, rfl, hB, hRow⟩ : ∃ v, [f 6] = [v] ∧ Lin2.NewVar wr.heap.size (wcells zero8) (wcells hj1) 0 v W' 1 := hF 10 (by decide)
        have h64 := List.singleton_inj.1 hv'
        have hRow : Row W' B 0 (wcells hj1) := hRow
        rw [h64]
        clear hF hv' h64 f hx1
        replace C2 := C2.trans hC (fun _ _ h => h)
        have B3x : Row W' hh 0 (wcells hj0) := hI
        clear hI hC B3a
        have HNN := Lib.hid (show 64 * j + 64 = 64 * (j + 1) by omega)
        go_wp2_with (first
          | (refine wpList_loadRow rfl 29 (.tmp 6) rfl B 0 rfl _ hRow _ Tryd.underlying29 rfl 8 size8 (by rw [wcells_length]; exact HH.out.2.2.2.2.2.2.2) ?_; rw [← HH.out.2.2.2.2.2.1])
          | (refine wpList_storeRow rfl 29 (.tmp 3) (.tmp 40) rfl hh 0 _ (wcells hj1) rfl (by show Value.agg av1 = _; rw [HH.out.2.2.2.2.2.1]) B3x 8 size8 (by rw [wcells_length]; exact HH.out.2.2.2.2.2.2.1) (by rw [wcells_length]; exact HH.out.2.2.2.2.2.2.2) (wcells_one _) ?_; intro w8 B8 z1 z2 c8; clear z1 z2; replace C2 := C2.trans c8 (fun j hj e => by have := HW1.out; omega)))
        go_roundw
        case rel =>
          refine ⟨j + 1, by omega, ?_, by rw [← HH.out.2.2.1]; exact B8, C2⟩
          rw [← HNN.out, ← HO.out.1]
          go_num
        case measure => have := HO.out; simp [intOf]; omega
      · obtain rfl : j = n := by omega
        obtain ⟨hf, hhf⟩ : ∃ hf, hf = run iv X j := ⟨_, rfl⟩
        have hfl : hf.length = 8 := by rw [hhf, run_length]; rfl
        rw [← hhf] at B3a
        have HF := Lib.hid (⟨hhf, hfl⟩ : _ ∧ _)
        have hPS := HPS.out
        obtain ⟨m, hm⟩ : ∃ m, m = 64 * j := ⟨_, rfl⟩
        rw [← hm] at hPS ⊢
        have hm1 : m ≤ 6400 := by have := HN1.out; omega
        clear hhf hfl hm hlt hj
        go_wp2_with (first
          | (go_at_call 9; rw [H1.out.1]; refine (sha_any l (by have := hl2.out; omega) _ (HK.out.keep C2 (fun h => h))).mono ?_; rintro e w5 ⟨rfl, c5⟩; rw [← H1.out.1, ← H1.out.2.1]; have B3b := B3a.keep c5 (fun h => h); have C5 := C2.trans c5 (fun _ _ h => h); clear c5)
          | (refine wpList_storeRow rfl 24 (.tmp 8) (.tmp 42) rfl w5.heap.size 0 _ (cellsOf (sha l)) rfl (by show Value.agg sv = _; rw [H1.out.2.1]) (Row.newAt _ _ _ (cellsOf (List.replicate 32 0)) _ rfl rfl) 32 size32 rfl (by rw [cellsOf_length, sha_length]) (cellsOf_one _) ?_; intro w6 B8 z1 z2 c6; clear z1 z2; have HB5 := Lib.hid C5.size; replace C5 := (C5.alloc _).trans c6 (fun j hj e => by have := HB5.out; omega); replace B3b := (B3b.alloc _).keep c6 (fun e => by have := B3b.lt (by rw [wcells_length, HF.out.2]; omega); omega); clear c6))
        obtain ⟨qq, hqq⟩ : ∃ qq, qq = w5.heap.size := ⟨_, rfl⟩
        rw [← hqq] at B8 ⊢
        clear hqq HB5
        obtain ⟨w7, rfl⟩ : ∃ x : World, x = wr := ⟨_, rfl⟩
        go_loopw [9] (fun i wr => ∃ k : Nat, k ≤ 32 ∧ i = .int .i64 k ∧ Row wr qq 0 (cellsOf (sha l)) ∧ Row wr hh 0 (wcells hf) ∧ OnlyNew w wr) (fun i _ => 32 - (intOf i).toNat)
        case atStart => exact ⟨0, Nat.zero_le _, rfl, B8, B3b, C5⟩
        case round =>
          obtain ⟨k, hk, rfl, B8a, B3c, C6⟩ := hrel
          clear B8 B3b C5
          by_cases hlt : k < 32
          · obtain ⟨q, hq⟩ : ∃ q, q = k / 4 := ⟨_, rfl⟩
            obtain ⟨r, hr⟩ : ∃ r, r = k % 4 := ⟨_, rfl⟩
            obtain ⟨s, hs⟩ : ∃ s, s = 24 - 8 * r := ⟨_, rfl⟩
            have hq1 : q < 8 := by omega
            have hr1 : r ≤ 3 := by omega
            have hs1 : s ≤ 24 := by omega
            have eq1 : (k : Int) / 4 = (q : Int) := by omega
            have er1 : (k : Int) % 4 = (r : Int) := by omega
            have es1 : (24 : Int) - 8 * (r : Int) = (s : Int) := by omega
            have eb := out_byte hf k s (by rw [hs, hr]) q hq
            obtain ⟨c, hc⟩ : ∃ c, c = outAt hf k := ⟨_, rfl⟩
            have hgs : (cellsOf (sha l))[k]? = some (.int .u8 (c.toNat : Int)) := by
              rw [H1.out.2.2.2.1, ← HF.out.1, hashOf, hc, cellsOf, List.getElem?_map, outs_get hf 32 k hlt (by omega)]
              rfl
            rw [← hc] at eb
            clear hc
            have HE := Lib.hid (⟨eq1, er1, es1, eb⟩ : _ ∧ _ ∧ _ ∧ _)
            have HB8 := Lib.hid B8a
            have HB3 := Lib.hid B3c
            have HG := Lib.hid (And.intro hgs trivial)
            clear eq1 er1 es1 eb hq hr hs B8a B3c hgs
            go_upto_region 16 with (fail)
            obtain ⟨eq1, er1, es1, eb⟩ := HE.out
            refine Lin.region_lin [0, 1, 3, 0, 8, 24, 56, 0, 128, 384, 896, 2040, 4088, 8191] [] [] (fun _ => False) (fun _ w' => Row w' qq 0 (cellsOf (sha l)) ∧ Row w' hh 0 (wcells hf)) _ (by kernel_rfl) rfl (by kernel_rfl) (⟨HB8.out, HB3.out⟩) ?_
            -- 0 47:move
            (refine Lin.walk_pure ?_ (by kernel_rfl) (by kernel_rfl) (by rfl) ?_ ?_; rotate_left; (focus (intro w; (go_simp; (try go_ints); (try simp only [IntWalk.iteOmega]); (try go_simp); try with_reducible rfl))); (intro S' hS'; simp only [Act.put, List.setIfInBounds_toArray, List.set_cons_zero, List.set_cons_succ] at hS'; subst hS'))
            -- 1 48:indexAddr
            (refine Lin.walk_pure ?_ (by kernel_rfl) (by kernel_rfl) (by rfl) ?_ ?_; rotate_left; (focus (intro w; (go_simp; (try go_ints); (try simp only [IntWalk.iteOmega]); (try go_simp); try with_reducible rfl))); (intro S' hS'; simp only [Act.put, List.setIfInBounds_toArray, List.set_cons_zero, List.set_cons_succ] at hS'; subst hS'))
            -- 2 49:load
            (refine Lin.walk_read ?_ (by kernel_rfl) (by kernel_rfl) (by kernel_rfl) (by rfl) ?_ ?_; rotate_left; (focus (intro w1 hC hI; have d1 := hI.2.cell0 (i := q) (wcells_get (by rw [HF.out.2]; omega)); have d2 := hI.1.cell0 (i := k) HG.out.1; (go_simp; (try go_ints); (try simp only [IntWalk.iteOmega]); (try go_simp); try with_reducible rfl))); (intro S' hS'; simp only [Act.put, List.setIfInBounds_toArray, List.set_cons_zero, List.set_cons_succ] at hS'; subst hS'))
            -- 3 50:move
            (refine Lin.walk_pure ?_ (by kernel_rfl) (by kernel_rfl) (by rfl) ?_ ?_; rotate_left; (focus (intro w; (go_simp; (try go_ints); (try simp only [IntWalk.iteOmega]); (try go_simp); try with_reducible rfl))); (intro S' hS'; simp only [Act.put, List.setIfInBounds_toArray, List.set_cons_zero, List.set_cons_succ] at hS'; subst hS'))
            -- 4 51:binOp
            (refine Lin.walk_pure ?_ (by kernel_rfl) (by kernel_rfl) (by rfl) ?_ ?_; rotate_left; (focus (intro w; (go_simp; (try go_ints); (try simp only [IntWalk.iteOmega]); (try go_simp); try with_reducible rfl))); (intro S' hS'; simp only [Act.put, List.setIfInBounds_toArray, List.set_cons_zero, List.set_cons_succ] at hS'; subst hS'))
            -- 5 52:indexAddr
            (refine Lin.walk_pure ?_ (by kernel_rfl) (by kernel_rfl) (by rfl) ?_ ?_; rotate_left; (focus (intro w; (go_simp; (try go_ints); (try simp only [IntWalk.iteOmega]); (try go_simp); try with_reducible rfl))); (intro S' hS'; simp only [Act.put, List.setIfInBounds_toArray, List.set_cons_zero, List.set_cons_succ] at hS'; subst hS'))
            -- 6 53:load
            (refine Lin.walk_read ?_ (by kernel_rfl) (by kernel_rfl) (by kernel_rfl) (by rfl) ?_ ?_; rotate_left; (focus (intro w1 hC hI; have d1 := hI.2.cell0 (i := q) (wcells_get (by rw [HF.out.2]; omega)); have d2 := hI.1.cell0 (i := k) HG.out.1; (go_simp; (try go_ints); (try simp only [IntWalk.iteOmega]); (try go_simp); try with_reducible rfl))); (intro S' hS'; simp only [Act.put, List.setIfInBounds_toArray, List.set_cons_zero, List.set_cons_succ] at hS'; subst hS'))
            -- 7 54:move
            (refine Lin.walk_pure ?_ (by kernel_rfl) (by kernel_rfl) (by rfl) ?_ ?_; rotate_left; (focus (intro w; (go_simp; (try go_ints); (try simp only [IntWalk.iteOmega]); (try go_simp); try with_reducible rfl))); (intro S' hS'; simp only [Act.put, List.setIfInBounds_toArray, List.set_cons_zero, List.set_cons_succ] at hS'; subst hS'))
            -- 8 55:binOp
            (refine Lin.walk_pure ?_ (by kernel_rfl) (by kernel_rfl) (by rfl) ?_ ?_; rotate_left; (focus (intro w; (go_simp; (try go_ints); (try simp only [IntWalk.iteOmega]); (try go_simp); try with_reducible rfl))); (intro S' hS'; simp only [Act.put, List.setIfInBounds_toArray, List.set_cons_zero, List.set_cons_succ] at hS'; subst hS'))
            -- 9 56:binOp
            (refine Lin.walk_pure ?_ (by kernel_rfl) (by kernel_rfl) (by rfl) ?_ ?_; rotate_left; (focus (intro w; (go_simp; (try go_ints); (try simp only [IntWalk.iteOmega]); (try go_simp); try with_reducible rfl))); (intro S' hS'; simp only [Act.put, List.setIfInBounds_toArray, List.set_cons_zero, List.set_cons_succ] at hS'; subst hS'))
            -- 10 57:binOp
            (refine Lin.walk_pure ?_ (by kernel_rfl) (by kernel_rfl) (by rfl) ?_ ?_; rotate_left; (focus (intro w; (go_simp; (try go_ints); (try simp only [IntWalk.iteOmega]); (try go_simp); try with_reducible rfl))); (intro S' hS'; simp only [Act.put, List.setIfInBounds_toArray, List.set_cons_zero, List.set_cons_succ] at hS'; subst hS'))
            -- 11 58:binOp
            (refine Lin.walk_pure ?_ (by kernel_rfl) (by kernel_rfl) (by rfl) ?_ ?_; rotate_left; (focus (intro w; (go_simp; (try go_ints); (try simp only [IntWalk.iteOmega]); (try go_simp); try with_reducible rfl))); (intro S' hS'; simp only [Act.put, List.setIfInBounds_toArray, List.set_cons_zero, List.set_cons_succ] at hS'; subst hS'))
            -- 12 59:convert
            (refine Lin.walk_pure ?_ (by kernel_rfl) (by kernel_rfl) (by rfl) ?_ ?_; rotate_left; (focus (intro w; (go_simp; (try go_ints); (try simp only [IntWalk.iteOmega]); (try go_simp); try with_reducible rfl))); (intro S' hS'; simp only [Act.put, List.setIfInBounds_toArray, List.set_cons_zero, List.set_cons_succ] at hS'; subst hS'))
            -- 13 60:binOp
            (refine Lin.walk_pure ?_ (by kernel_rfl) (by kernel_rfl) (by rfl) ?_ ?_; rotate_left; (focus (intro w; (go_simp; (try go_ints); (try simp only [IntWalk.iteOmega]); (try go_simp); try with_reducible rfl))); (intro S' hS'; simp only [Act.put, List.setIfInBounds_toArray, List.set_cons_zero, List.set_cons_succ] at hS'; subst hS'))
            (refine Lin.walk_end0 rfl ?_; intro W' hC hI)
            have B8n := hI.1
            have B3n := hI.2
            replace C6 := C6.trans hC (fun _ _ h => h)
            clear hI hC eq1 er1 es1 eb
            go_wp2
            go_roundw
            case rel => exact ⟨k + 1, by omega, by go_num, B8n, B3n, C6⟩
            case measure => simp [intOf]; omega
          · obtain rfl : k = 32 := by omega
            go_wp2
            go_ret
            exact ⟨rfl, C6⟩
end Go.Proofs.YtgcambjoeaijkaaDoor.Dig
