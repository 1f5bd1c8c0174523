/- The contracts of the reference of layer 2: Pad, Back, Words. -/
import Derived.Test.YtgcambjoeaijkaaDoorDigR1
namespace Go.Proofs.YtgcambjoeaijkaaDoor.Dig
open Go Go.RowKit Go.Proofs.YtgcambjoeaijkaaDoor.Mem

theorem be8_snoc (M k : Nat) (h : k < 8) : (be8 M).take (k + 1) = (be8 M).take k ++ [byteAt M k] := by
  rw [List.take_succ_eq_append_getElem (by rw [be8_length]; exact h)]
  simp [be8]

/-- The first k words of eight, the others 0. -/
def firstW (h : List Word) (k : Nat) : List Word := h.take k ++ List.replicate (8 - k) 0
theorem firstW_length {h : List Word} (hh : h.length = 8) {k : Nat} (hk : k ≤ 8) : (firstW h k).length = 8 := by simp [firstW, hh]; omega
theorem firstW_succ {h : List Word} (hh : h.length = 8) {k : Nat} (hk : k < 8) : (firstW h k).set k (wat h k) = firstW h (k + 1) := by
  unfold firstW
  rw [List.set_append_right _ _ (by simp; omega)]
  have e1 : k - (h.take k).length = 0 := by simp; omega
  rw [e1, show 8 - k = (8 - (k + 1)) + 1 by omega, List.replicate_succ, List.set_cons_zero, List.take_succ_eq_append_getElem (by omega), List.append_assoc]
  simp [wat, List.getD, hh, hk]
theorem firstW_all {h : List Word} (hh : h.length = 8) : firstW h 8 = h := by simp [firstW, List.take_of_length_le (show h.length ≤ 8 by omega)]
def zero8 : List Word := List.replicate 8 0

set_option maxHeartbeats 2000000 in
theorem refpad_any (l : List UInt8) (hl : l.length ≤ 1000000000000) (w : World) :
    Calls Tryd.prog 12 #[.string (bstr l)] w fun r w' => r = .returned (.string (bstr (pad l))) ∧ OnlyNew w w' := by
  obtain ⟨i0, hi, hz0, hz1, hz2⟩ := info_parts info_byte
  have hsz := bstr_size l
  obtain ⟨b, hb⟩ : ∃ b, b = bstr l := ⟨_, rfl⟩
  rw [← hb] at hsz ⊢
  have hb1 : b.size ≤ 1000000000000 := by omega
  obtain ⟨M, hM⟩ : ∃ M, M = b.size * 8 := ⟨_, rfl⟩
  have hM1 : M ≤ 8000000000000 := by omega
  have hMe : (b.size : Int) * 8 = (M : Int) := by omega
  have HB := Lib.hid hb
  have HS := Lib.hid (⟨hsz, hM⟩ : _ ∧ _)
  clear hb hsz hM
  go_enter Tryd.func12, Tryd.ntmps12
  go_wp2_with (first
    | (refine wpList_bytes rfl 9 47 (.tmp 10) rfl 5 Tryd.underlying9 Tryd.underlying47 Tryd.underlying5 l (by omega) (by show Value.string b = _; rw [HB.out]) ?_; intro g1 cap1 W1 hR1 hN1 hg1)
    | (at_builtin; refine wpList_app1 rfl (.tmp 11) (.tmp 12) 47 rfl 5 i0 (.int .u8 0) 1 Tryd.underlying47 hi hz0 hz1 hz2 rfl _ l.length cap1 (cellsOf l) (some g1) rfl (hR1.keep ((Chgd.refl (fun _ => False) _).alloc _) (fun _ _ h => h)) W1.heap.size _ _ rfl (MapKept.heap_alloc _ _).1 rfl (by unfold maxLen; omega) (by omega) ?_; intro ao2 cap2 g2 w2 hR2 hch hg2; obtain ⟨ht2, hg2'⟩ := from_alloc' hch hg2; clear hch hg2))
  have hO2 : OnlyNew w w2 := hN1.trans ht2 (fun j hj e => by cases e; omega)
  have hG : ∃ k, g2 = some k ∧ w.heap.size ≤ k := by
    rcases hg2' with h | ⟨k, h, hk⟩
    · exact ⟨g1, h, hg1⟩
    · exact ⟨k, h, Nat.le_trans hN1.size hk⟩
  clear hg2' ht2 hR1 hN1 hg1
  obtain ⟨k2, rfl, hk2⟩ := hG
  obtain ⟨N, hN⟩ : ∃ N, N = l.length := ⟨_, rfl⟩
  rw [← hN] at hR2 hl ⊢
  have hcl : cellsOf l ++ [Value.int .u8 128] = cellsOf (l ++ 128 :: List.replicate 0 0) := by simp [cellsOf]
  rw [hcl] at hR2
  have HN := Lib.hid hN
  clear hcl hN
  go_loopw [4] (fun v wr => ∃ j ao cap gk, j ≤ zeros N ∧ v = .slice ao (N + 1 + j) cap ∧ Srow wr 1 ao (N + 1 + j) cap (cellsOf (l ++ 128 :: List.replicate j 0)) (some gk) ∧ w.heap.size ≤ gk ∧ OnlyNew w wr)
    (fun v _ => match v with | .slice _ n _ => N + 65 - n | _ => 0)
  case atStart => exact ⟨0, ao2, cap2, k2, Nat.zero_le _, rfl, hR2, hk2, hO2⟩
  case round =>
    obtain ⟨j, ao, cap, gk, hj, rfl, hR, hgk, hO⟩ := hrel
    have hzl := zeros_lt N
    by_cases hlt : j < zeros N
    · have hmiss := zeros_miss N j hlt
      have hne : (((N + 1 + j : Nat) : Int) % 64 == 56) = false := by simp; omega
      have hne2 : (((N + 1 + j : Nat) : Int) % 64 != 56) = true := by simp; omega
      obtain ⟨n, hn⟩ : ∃ n, n = N + 1 + j := ⟨_, rfl⟩
      rw [← hn] at hne hne2 hR ⊢
      have hn1 : n ≤ 1000000001000 := by omega
      have HJ := Lib.hid hn
      clear hn hmiss
      go_wp2_with (at_builtin; refine wpList_app1 rfl (.tmp 18) (.tmp 19) 47 rfl 5 i0 (.int .u8 0) 1 Tryd.underlying47 hi hz0 hz1 hz2 rfl ao n cap _ (some gk) rfl (hR.keep ((Chgd.refl (fun _ => False) _).alloc _) (fun _ _ h => h)) wr.heap.size _ _ rfl (MapKept.heap_alloc _ _).1 rfl (by unfold maxLen; omega) (by omega) ?_; intro ao3 cap3 g3 w3 hR3 hch hg3; obtain ⟨ht3, hg3'⟩ := from_alloc' hch hg3; clear hch hg3)
      go_roundw
      case rel =>
        have hO3 : OnlyNew w w3 := hO.trans ht3 (fun j hj e => by cases e; omega)
        have hG : ∃ k, g3 = some k ∧ w.heap.size ≤ k := by
          rcases hg3' with h | ⟨k, h, hk⟩
          · exact ⟨gk, h, hgk⟩
          · exact ⟨k, h, Nat.le_trans hO.size hk⟩
        obtain ⟨k3, rfl, hk3⟩ := hG
        have e : n + 1 = N + 1 + (j + 1) := by have := HJ.out; omega
        refine ⟨j + 1, ao3, cap3, k3, by omega, by rw [e], ?_, hk3, hO3⟩
        rw [← e]
        have e2 : cellsOf (l ++ 128 :: List.replicate j 0) ++ [Value.int .u8 0] = cellsOf (l ++ 128 :: List.replicate (j + 1) 0) := by
          rw [List.replicate_succ']
          simp [cellsOf]
        rw [← e2]
        exact hR3
      case measure => have := HJ.out; simp; omega
    · obtain rfl : j = zeros N := by omega
      have hhit := zeros_hit N
      have hne : (((N + 1 + zeros N : Nat) : Int) % 64 == 56) = true := by simp; omega
      have hne2 : (((N + 1 + zeros N : Nat) : Int) % 64 != 56) = false := by simp; omega
      obtain ⟨n, hn⟩ : ∃ n, n = N + 1 + zeros N := ⟨_, rfl⟩
      rw [← hn] at hne hne2 hR ⊢
      have hn1 : n ≤ 1000000001000 := by omega
      obtain ⟨X, hX⟩ : ∃ X, X = l ++ 128 :: List.replicate (zeros N) 0 := ⟨_, rfl⟩
      rw [← hX] at hR
      have hXn : Hid (X.length = n) := Lib.hid (by rw [hX, hn, HN.out]; simp; omega)
      have HX := Lib.hid hX
      clear hn hhit hX hzl hR2 hO2 hk2 hlt hj
      obtain ⟨w3, rfl⟩ : ∃ x : World, x = wr := ⟨_, rfl⟩
      go_wp2
      go_loopw [4, 5] (fun v i wr => ∃ k : Nat, ∃ ao cap gk, k ≤ 8 ∧ i = .int .i64 (7 - (k : Int)) ∧ v = .slice ao (n + k) cap ∧ Srow wr 1 ao (n + k) cap (cellsOf (X ++ (be8 M).take k)) (some gk) ∧ w.heap.size ≤ gk ∧ OnlyNew w wr)
        (fun _ i _ => (intOf i + 1).toNat)
      case atStart => exact ⟨0, ao, cap, gk, by omega, by simp, rfl, by simpa using hR, hgk, hO⟩
      case round =>
        obtain ⟨k, ao, cap, gk, hk, rfl, rfl, hR, hgk, hO⟩ := hrel
        by_cases hlt : k < 8
        · obtain ⟨q, hq⟩ : ∃ q : Nat, q = 7 - k := ⟨_, rfl⟩
          have e : (7 : Int) - k = q := by omega
          rw [e]
          have hq7 : q ≤ 7 := by omega
          have h8 : IntKind.i64.wrap (8 * (q : Int)) = ((8 * q : Nat) : Int) := by rw [IntWalk.i64_in _ (by omega)]; omega
          obtain ⟨s, hs⟩ : ∃ s : Nat, s = 8 * q := ⟨_, rfl⟩
          have hs2 : s = 56 - 8 * k := by omega
          have hs1 : s ≤ 56 := by omega
          have e8 : 8 * (q : Int) = (s : Int) := by omega
          obtain ⟨y, hy⟩ : ∃ y, y = M / 2 ^ s := ⟨_, rfl⟩
          have hy1 : y ≤ 8000000000000 := by rw [hy]; exact Nat.le_trans (Nat.div_le_self _ _) hM1
          have hby : (y : Int) % 256 = ((byteAt M k).toNat : Int) := by rw [hy, hs2]; simp [byteAt]
          have HQ := Lib.hid (⟨hq, hy, hby⟩ : _ ∧ _ ∧ _)
          obtain ⟨nk, hnk⟩ : ∃ nk, nk = n + k := ⟨_, rfl⟩
          rw [← hnk] at hR ⊢
          have hnk1 : nk ≤ 1000000002000 := by omega
          have HNK := Lib.hid hnk
          clear hq hy hs hs2 h8 e hnk
          go_wp2_with (first
            | (go_at_call 19; refine (shift_any M s (by omega) (by omega) _).mono ?_; rintro e w' ⟨rfl, rfl⟩; rw [← HQ.out.2.1])
            | (at_builtin; refine wpList_app1 rfl (.tmp 25) (.tmp 32) 47 rfl 5 i0 (.int .u8 0) 1 Tryd.underlying47 hi hz0 hz1 hz2 rfl ao nk cap _ (some gk) rfl (hR.keep ((Chgd.refl (fun _ => False) _).alloc _) (fun _ _ h => h)) _ _ _ rfl (MapKept.heap_alloc _ _).1 rfl (by unfold maxLen; omega) (by omega) ?_; intro ao3 cap3 g3 w4 hR3 hch hg3; obtain ⟨ht3, hg3'⟩ := from_alloc' hch hg3; clear hch hg3))
          go_roundw
          case rel =>
            have hO3 : OnlyNew w w4 := hO.trans ht3 (fun j hj e => by cases e; omega)
            have hG : ∃ k, g3 = some k ∧ w.heap.size ≤ k := by
              rcases hg3' with h | ⟨k, h, hk⟩
              · exact ⟨gk, h, hgk⟩
              · exact ⟨k, h, Nat.le_trans hO.size hk⟩
            obtain ⟨k3, rfl, hk3⟩ := hG
            have e1 : nk + 1 = n + (k + 1) := by have := HNK.out; omega
            refine ⟨k + 1, ao3, cap3, k3, by omega, by have := HQ.out.1; go_num, by rw [e1], ?_, hk3, hO3⟩
            rw [be8_snoc M k hlt, ← List.append_assoc, cellsOf_append, ← e1]
            have e2 : cellsOf [byteAt M k] = [Value.int .u8 ((byteAt M k).toNat : Int)] := rfl
            rw [e2]
            exact hR3
          case measure => simp [intOf]
        · obtain rfl : k = 8 := by omega
          have hcv := hR.to_string Tryd.underlying47 Tryd.underlying5 Tryd.underlying9
          have hp : X ++ (be8 M).take 8 = pad l := by rw [HX.out, pad, ← HN.out, List.take_of_length_le (by rw [be8_length]; omega), HS.out.2, HS.out.1, ← HN.out]
          rw [hp] at hcv
          go_wp2
          go_ret
          exact ⟨rfl, hO⟩

set_option maxRecDepth 100000 in
set_option maxHeartbeats 1000000 in
theorem back_any (h : List Word) (hh : h.length = 8) (w : World) :
    Calls Tryd.prog 15 #[.agg (wcells h).toArray] w fun r w' => r = .returned (.agg (wcells64 h).toArray) ∧ OnlyNew w w' := by
  obtain ⟨hv, hhv⟩ : ∃ hv, hv = (wcells h).toArray := ⟨_, rfl⟩
  obtain ⟨rv, hrv⟩ : ∃ rv, rv = (wcells64 h).toArray := ⟨_, rfl⟩
  obtain ⟨Z, hZ⟩ : ∃ Z : List Word, Z = List.replicate 8 0 := ⟨_, rfl⟩
  have hcs : Hid ((wcells h).length = 8) := Lib.hid (by rw [wcells_length]; exact hh)
  have hcd : Hid ((wcells64 h).length = 8) := Lib.hid (by rw [wcells64_length]; exact hh)
  rw [← hhv, ← hrv]
  have HV := Lib.hid hhv
  have HRV := Lib.hid hrv
  have HH := Lib.hid (⟨hh, hZ⟩ : _ ∧ _)
  clear hhv hrv hh hZ
  go_enter Tryd.func15, Tryd.ntmps15
  go_wp2_with (first
    | (refine wpList_storeRow rfl 33 (.tmp 3) (.tmp 5) rfl (w.heap.size + 1 + 1) 0 _ (wcells64 zero8) rfl rfl (Row.newAt _ _ _ _ _ (by simp) rfl) 8 size8v rfl rfl (wcells64_one _) ?_; intro w2 B3 _ _ c2; have B1 := ((((Row.newAt w hv 29 (wcells h) w.heap.size rfl (by rw [HV.out])).alloc _).alloc _).keep c2 (fun e => by omega)); have B2 := (((Row.newAt (w.alloc (.cells hv 29)) _ 33 (wcells64 zero8) (w.heap.size + 1) (by simp) rfl).alloc _).keep c2 (fun e => by omega)); have C2 : OnlyNew w w2 := ((((Chgd.refl (fun _ => False) w).alloc _).alloc _).alloc _).trans c2 (fun j hj e => by omega)))
  go_loopw [4] (fun i wr => ∃ k : Nat, k ≤ 8 ∧ i = .int .i64 k ∧ Row wr (w.heap.size + 1 + 1) 0 (wcells64 (firstW h k)) ∧ Row wr w.heap.size 0 (wcells h) ∧ Row wr (w.heap.size + 1) 0 (wcells64 zero8) ∧ OnlyNew w wr) (fun i _ => 8 - (intOf i).toNat)
  case atStart => exact ⟨0, Nat.zero_le _, rfl, B3, B1, B2, C2⟩
  case round =>
    obtain ⟨k, hk, rfl, B3a, B1a, B2a, C1⟩ := hrel
    clear B1 B2 B3 C2
    by_cases hlt : k < 8
    · have hL := firstW_length HH.out.1 (Nat.le_of_lt hlt)
      have hnext := firstW_succ HH.out.1 hlt
      obtain ⟨x, hx⟩ : ∃ x, x = wat h k := ⟨_, rfl⟩
      have hx1 := v_wrap x
      have hx2 := w_wrap x
      have hx3 := w_mod x
      rw [← hx] at hnext
      obtain ⟨L, hLe⟩ : ∃ L, L = firstW h k := ⟨_, rfl⟩
      rw [← hLe] at B3a hL hnext
      have c1 := B1a.cell0 (i := k) (wcells_get (by rw [HH.out.1]; omega))
      rw [← hx] at c1
      have f3 := B3a.free0 (i := k) (by rw [wcells64_length, hL]; omega)
      have c3 := B3a.cell0 (i := k) (wcells64_get (by rw [hL]; omega))
      have hset := Row.set0 B3a (i := k) (by rw [wcells64_length, hL]; omega) (.int .u64 (wn x))
      rw [wcells64_set, hnext] at hset
      have HR := Lib.hid hset
      have B1' := Lib.hid B1a
      have B2' := Lib.hid B2a
      clear hset hnext hL hx B1a B3a B2a hLe
      go_wp2
      go_roundw
      case rel => exact ⟨k + 1, by omega, by go_num, HR.out, B1'.out.keep (Chgd.one _ _ _ _) (fun e => by omega), B2'.out.keep (Chgd.one _ _ _ _) (fun e => by omega), C1.trans (Chgd.one _ _ _ _) (fun j hj e => by omega)⟩
      case measure => simp [intOf]; omega
    · obtain rfl : k = 8 := by omega
      rw [firstW_all HH.out.1] at B3a
      go_wp2_with (first
        | (refine wpList_loadRow rfl 33 (.tmp 3) rfl (w.heap.size + 1 + 1) 0 rfl _ B3a _ Tryd.underlying33 rfl 8 size8v hcd.out ?_; rw [← HRV.out])
        | (refine wpList_storeRow rfl 33 (.tmp 2) (.tmp 16) rfl (w.heap.size + 1) 0 _ (wcells64 h) rfl (by show Value.agg rv = _; rw [HRV.out]) B2a 8 size8v rfl hcd.out (wcells64_one _) ?_; intro w8 B8 _ _ c8))
      refine bodyPost_ret (v := .agg rv) ?_ rfl ⟨rfl, C1.trans c8 (fun j hj e => by omega)⟩
      rw [HRV.out]
      exact results_cell_mid (p := 2) (ty := 33) rfl _ w8 (w.heap.size + 1) 0 (wcells64 h) _ rfl B8.1 Tryd.underlying33 rfl (by rw [hcd.out]; exact size8v)

set_option maxRecDepth 100000 in
set_option maxHeartbeats 1000000 in
theorem words_any (h : List Word) (hh : h.length = 8) (w : World) :
    Calls Tryd.prog 16 #[.agg (wcells64 h).toArray] w fun r w' => r = .returned (.agg (wcells h).toArray) ∧ OnlyNew w w' := by
  obtain ⟨hv, hhv⟩ : ∃ hv, hv = (wcells64 h).toArray := ⟨_, rfl⟩
  obtain ⟨rv, hrv⟩ : ∃ rv, rv = (wcells h).toArray := ⟨_, rfl⟩
  obtain ⟨Z, hZ⟩ : ∃ Z : List Word, Z = List.replicate 8 0 := ⟨_, rfl⟩
  have hcs : Hid ((wcells64 h).length = 8) := Lib.hid (by rw [wcells64_length]; exact hh)
  have hcd : Hid ((wcells h).length = 8) := Lib.hid (by rw [wcells_length]; exact hh)
  rw [← hhv, ← hrv]
  have HV := Lib.hid hhv
  have HRV := Lib.hid hrv
  have HH := Lib.hid (⟨hh, hZ⟩ : _ ∧ _)
  clear hhv hrv hh hZ
  go_enter Tryd.func16, Tryd.ntmps16
  go_wp2_with (first
    | (refine wpList_storeRow rfl 29 (.tmp 3) (.tmp 5) rfl (w.heap.size + 1 + 1) 0 _ (wcells zero8) rfl rfl (Row.newAt _ _ _ _ _ (by simp) rfl) 8 size8 rfl rfl (wcells_one _) ?_; intro w2 B3 _ _ c2; have B1 := ((((Row.newAt w hv 33 (wcells64 h) w.heap.size rfl (by rw [HV.out])).alloc _).alloc _).keep c2 (fun e => by omega)); have B2 := (((Row.newAt (w.alloc (.cells hv 33)) _ 29 (wcells zero8) (w.heap.size + 1) (by simp) rfl).alloc _).keep c2 (fun e => by omega)); have C2 : OnlyNew w w2 := ((((Chgd.refl (fun _ => False) w).alloc _).alloc _).alloc _).trans c2 (fun j hj e => by omega)))
  go_loopw [4] (fun i wr => ∃ k : Nat, k ≤ 8 ∧ i = .int .i64 k ∧ Row wr (w.heap.size + 1 + 1) 0 (wcells (firstW h k)) ∧ Row wr w.heap.size 0 (wcells64 h) ∧ Row wr (w.heap.size + 1) 0 (wcells zero8) ∧ OnlyNew w wr) (fun i _ => 8 - (intOf i).toNat)
  case atStart => exact ⟨0, Nat.zero_le _, rfl, B3, B1, B2, C2⟩
  case round =>
    obtain ⟨k, hk, rfl, B3a, B1a, B2a, C1⟩ := hrel
    clear B1 B2 B3 C2
    by_cases hlt : k < 8
    · have hL := firstW_length HH.out.1 (Nat.le_of_lt hlt)
      have hnext := firstW_succ HH.out.1 hlt
      obtain ⟨x, hx⟩ : ∃ x, x = wat h k := ⟨_, rfl⟩
      have hx1 := v_wrap x
      have hx2 := w_wrap x
      have hx3 := w_mod x
      rw [← hx] at hnext
      obtain ⟨L, hLe⟩ : ∃ L, L = firstW h k := ⟨_, rfl⟩
      rw [← hLe] at B3a hL hnext
      have c1 := B1a.cell0 (i := k) (wcells64_get (by rw [HH.out.1]; omega))
      rw [← hx] at c1
      have f3 := B3a.free0 (i := k) (by rw [wcells_length, hL]; omega)
      have c3 := B3a.cell0 (i := k) (wcells_get (by rw [hL]; omega))
      have hset := Row.set0 B3a (i := k) (by rw [wcells_length, hL]; omega) (.int .u32 (wn x))
      rw [wcells_set, hnext] at hset
      have HR := Lib.hid hset
      have B1' := Lib.hid B1a
      have B2' := Lib.hid B2a
      clear hset hnext hL hx B1a B3a B2a hLe
      go_wp2
      go_roundw
      case rel => exact ⟨k + 1, by omega, by go_num, HR.out, B1'.out.keep (Chgd.one _ _ _ _) (fun e => by omega), B2'.out.keep (Chgd.one _ _ _ _) (fun e => by omega), C1.trans (Chgd.one _ _ _ _) (fun j hj e => by omega)⟩
      case measure => simp [intOf]; omega
    · obtain rfl : k = 8 := by omega
      rw [firstW_all HH.out.1] at B3a
      go_wp2_with (first
        | (refine wpList_loadRow rfl 29 (.tmp 3) rfl (w.heap.size + 1 + 1) 0 rfl _ B3a _ Tryd.underlying29 rfl 8 size8 hcd.out ?_; rw [← HRV.out])
        | (refine wpList_storeRow rfl 29 (.tmp 2) (.tmp 16) rfl (w.heap.size + 1) 0 _ (wcells h) rfl (by show Value.agg rv = _; rw [HRV.out]) B2a 8 size8 rfl hcd.out (wcells_one _) ?_; intro w8 B8 _ _ c8))
      refine bodyPost_ret (v := .agg rv) ?_ rfl ⟨rfl, C1.trans c8 (fun j hj e => by omega)⟩
      rw [HRV.out]
      exact results_cell_mid (p := 2) (ty := 29) rfl _ w8 (w.heap.size + 1) 0 (wcells h) _ rfl B8.1 Tryd.underlying29 rfl (by rw [hcd.out]; exact size8)
end Go.Proofs.YtgcambjoeaijkaaDoor.Dig
