/- The contracts of the reference of layer 2: Pad, Back, Words. -/
import Derived.Test.YtomalanncdcopaaDoorDigR1
set_option linter.unusedSimpArgs false
set_option linter.unusedVariables false
namespace Go.Proofs.YtomalanncdcopaaDoor.Dig
open Go Go.RowKit Go.Proofs.YtomalanncdcopaaDoor.Mem

theorem be8_snoc (M k : Nat) (h : k < 8) : (be8 M).take (k + 1) = (be8 M).take k ++ [byteAt M k] := by
  rw [List.take_succ_eq_append_getElem (by rw [be8_length]; exact h)]
  simp [be8]

/-- The first k words of eight, the others 0. -/
def firstW (h : List Word) (k : Nat) : List Word := h.take k ++ List.replicate (8 - k) 0
theorem firstW_length {h : List Word} (hh : h.length = 8) {k : Nat} (hk : k ≤ 8) : (firstW h k).length = 8 := by simp [firstW, hh]; omega
theorem firstW_succ {h : List Word} (hh : h.length = 8) {k : Nat} (hk : k < 8) : (firstW h k).set k (wat h k) = firstW h (k + 1) := by
  unfold firstW
  rw [List.set_append_right _ _ (by simp; omega)]
  have e1 : k - (h.take k).length = 0 := by simp; omega
  rw [e1, show 8 - k = (8 - (k + 1)) + 1 by omega, List.replicate_succ, List.set_cons_zero, List.take_succ_eq_append_getElem (by omega), List.append_assoc]
  simp [wat, List.getD, hh, hk]
theorem firstW_all {h : List Word} (hh : h.length = 8) : firstW h 8 = h := by simp [firstW, List.take_of_length_le (show h.length ≤ 8 by omega)]
def zero8 : List Word := List.replicate 8 0

set_option maxHeartbeats 2000000 in
theorem refpad_any (l : List UInt8) (hl : l.length ≤ 1000000000000) (w : World) :
    Calls Tryd.prog 25 #[.string (bstr l)] w fun r w' => r = .returned (.string (bstr (pad l))) ∧ OnlyNew w w' := by
  obtain ⟨i0, hi, hz0, hz1, hz2⟩ := info_parts info_byte
  have hsz := bstr_size l
  obtain ⟨b, hb⟩ : ∃ b, b = bstr l := ⟨_, rfl⟩
  rw [← hb] at hsz ⊢
  have hb1 : b.size ≤ 1000000000000 := by omega
  obtain ⟨M, hM⟩ : ∃ M, M = b.size * 8 := ⟨_, rfl⟩
  have hM1 : M ≤ 8000000000000 := by omega
  have hMe : (b.size : Int) * 8 = (M : Int) := by omega
  have HB := Lib.hid hb
  have HS := Lib.hid (⟨hsz, hM⟩ : _ ∧ _)
  clear hb hsz hM
  go_enter Tryd.func25, Tryd.ntmps25
  go_wp2_with (first
    | (refine wpList_bytes rfl 9 27 (.tmp 10) rfl 5 Tryd.underlying9 Tryd.underlying27 Tryd.underlying5 l (by omega) (by show Value.string b = _; rw [HB.out]) ?_; intro g1 cap1 W1 hR1 hN1 hg1)
    | (at_builtin; refine wpList_app1 rfl (.tmp 11) (.tmp 12) 27 rfl 5 i0 (.int .u8 0) 1 Tryd.underlying27 hi hz0 hz1 hz2 rfl _ l.length cap1 (cellsOf l) (some g1) rfl (hR1.keep ((Chgd.refl (fun _ => False) _).alloc _) (fun _ _ h => h)) W1.heap.size _ _ rfl (MapKept.heap_alloc _ _).1 rfl (by unfold maxLen; omega) (by omega) ?_; intro ao2 cap2 g2 w2 hR2 hch hg2; obtain ⟨ht2, hg2'⟩ := from_alloc' hch hg2; clear hch hg2))
  have hO2 : OnlyNew w w2 := hN1.trans ht2 (fun j hj e => by cases e; omega)
  have hG : ∃ k, g2 = some k ∧ w.heap.size ≤ k := by
    rcases hg2' with h | ⟨k, h, hk⟩
    · exact ⟨g1, h, hg1⟩
    · exact ⟨k, h, Nat.le_trans hN1.size hk⟩
  clear hg2' ht2 hR1 hN1 hg1
  obtain ⟨k2, rfl, hk2⟩ := hG
  obtain ⟨N, hN⟩ : ∃ N, N = l.length := ⟨_, rfl⟩
  rw [← hN] at hR2 hl ⊢
  have hcl : cellsOf l ++ [Value.int .u8 128] = cellsOf (l ++ 128 :: List.replicate 0 0) := by simp [cellsOf]
  rw [hcl] at hR2
  have HN := Lib.hid hN
  clear hcl hN
  go_loopw [4] (fun v wr => ∃ j ao cap gk, j ≤ zeros N ∧ v = .slice ao (N + 1 + j) cap ∧ Srow wr 1 ao (N + 1 + j) cap (cellsOf (l ++ 128 :: List.replicate j 0)) (some gk) ∧ w.heap.size ≤ gk ∧ OnlyNew w wr)
    (fun v _ => match v with | .slice _ n _ => N + 65 - n | _ => 0)
  case atStart => exact ⟨0, ao2, cap2, k2, Nat.zero_le _, rfl, hR2, hk2, hO2⟩
  case round =>
    obtain ⟨j, ao, cap, gk, hj, rfl, hR, hgk, hO⟩ := hrel
    have hzl := zeros_lt N
    by_cases hlt : j < zeros N
    · have hmiss := zeros_miss N j hlt
      have hne : (((N + 1 + j : Nat) : Int) % 64 == 56) = false := by simp; omega
      have hne2 : (((N + 1 + j : Nat) : Int) % 64 != 56) = true := by simp; omega
      obtain ⟨n, hn⟩ : ∃ n, n = N + 1 + j := ⟨_, rfl⟩
      rw [← hn] at hne hne2 hR ⊢
      have hn1 : n ≤ 1000000001000 := by omega
      have HJ := Lib.hid hn
      clear hn hmiss
      go_wp2_with (at_builtin; refine wpList_app1 rfl (.tmp 18) (.tmp 19) 27 rfl 5 i0 (.int .u8 0) 1 Tryd.underlying27 hi hz0 hz1 hz2 rfl ao n cap _ (some gk) rfl (hR.keep ((Chgd.refl (fun _ => False) _).alloc _) (fun _ _ h => h)) wr.heap.size _ _ rfl (MapKept.heap_alloc _ _).1 rfl (by unfold maxLen; omega) (by omega) ?_; intro ao3 cap3 g3 w3 hR3 hch hg3; obtain ⟨ht3, hg3'⟩ := from_alloc' hch hg3; clear hch hg3)
      go_roundw
      case rel =>
        have hO3 : OnlyNew w w3 := hO.trans ht3 (fun j hj e => by cases e; omega)
        have hG : ∃ k, g3 = some k ∧ w.heap.size ≤ k := by
          rcases hg3' with h | ⟨k, h, hk⟩
          · exact ⟨gk, h, hgk⟩
          · exact ⟨k, h, Nat.le_trans hO.size hk⟩
        obtain ⟨k3, rfl, hk3⟩ := hG
        have e : n + 1 = N + 1 + (j + 1) := by have := HJ.out; omega
        refine ⟨j + 1, ao3, cap3, k3, by omega, by rw [e], ?_, hk3, hO3⟩
        rw [← e]
        have e2 : cellsOf (l ++ 128 :: List.replicate j 0) ++ [Value.int .u8 0] = cellsOf (l ++ 128 :: List.replicate (j + 1) 0) := by
          rw [List.replicate_succ']
          simp [cellsOf]
        rw [← e2]
        exact hR3
      case measure => have := HJ.out; simp; omega
    · obtain rfl : j = zeros N := by omega
      have hhit := zeros_hit N
      have hne : (((N + 1 + zeros N : Nat) : Int) % 64 == 56) = true := by simp; omega
      have hne2 : (((N + 1 + zeros N : Nat) : Int) % 64 != 56) = false := by simp; omega
      obtain ⟨n, hn⟩ : ∃ n, n = N + 1 + zeros N := ⟨_, rfl⟩
      rw [← hn] at hne hne2 hR ⊢
      have hn1 : n ≤ 1000000001000 := by omega
      obtain ⟨X, hX⟩ : ∃ X, X = l ++ 128 :: List.replicate (zeros N) 0 := ⟨_, rfl⟩
      rw [← hX] at hR
      have hXn : Hid (X.length = n) := Lib.hid (by rw [hX, hn, HN.out]; simp; omega)
      have HX := Lib.hid hX
      clear hn hhit hX hzl hR2 hO2 hk2 hlt hj
      obtain ⟨w3, rfl⟩ : ∃ x : World, x = wr := ⟨_, rfl⟩
      go_wp2
      go_loopw [4, 5] (fun v i wr => ∃ k : Nat, ∃ ao cap gk, k ≤ 8 ∧ i = .int .i64 (7 - (k : Int)) ∧ v = .slice ao (n + k) cap ∧ Srow wr 1 ao (n + k) cap (cellsOf (X ++ (be8 M).take k)) (some gk) ∧ w.heap.size ≤ gk ∧ OnlyNew w wr)
        (fun _ i _ => (intOf i + 1).toNat)
      case atStart => exact ⟨0, ao, cap, gk, by omega, by simp, rfl, by simpa using hR, hgk, hO⟩
      case round =>
        obtain ⟨k, ao, cap, gk, hk, rfl, rfl, hR, hgk, hO⟩ := hrel
        by_cases hlt : k < 8
        · obtain ⟨q, hq⟩ : ∃ q : Nat, q = 7 - k := ⟨_, rfl⟩
          have e : (7 : Int) - k = q := by omega
          rw [e]
          have hq7 : q ≤ 7 := by omega
          have h8 : IntKind.i64.wrap (8 * (q : Int)) = ((8 * q : Nat) : Int) := by rw [IntWalk.i64_in _ (by omega)]; omega
          obtain ⟨s, hs⟩ : ∃ s : Nat, s = 8 * q := ⟨_, rfl⟩
          have hs2 : s = 56 - 8 * k := by omega
          have hs1 : s ≤ 56 := by omega
          have e8 : 8 * (q : Int) = (s : Int) := by omega
          obtain ⟨y, hy⟩ : ∃ y, y = M / 2 ^ s := ⟨_, rfl⟩
          have hy1 : y ≤ 8000000000000 := by rw [hy]; exact Nat.le_trans (Nat.div_le_self _ _) hM1
          have hby : (y : Int) % 256 = ((byteAt M k).toNat : Int) := by rw [hy, hs2]; simp [byteAt]
          have HQ := Lib.hid (⟨hq, hy, hby⟩ : _ ∧ _ ∧ _)
          obtain ⟨nk, hnk⟩ : ∃ nk, nk = n + k := ⟨_, rfl⟩
          rw [← hnk] at hR ⊢
          have hnk1 : nk ≤ 1000000002000 := by omega
          have HNK := Lib.hid hnk
          clear hq hy hs hs2 h8 e hnk
          go_wp2_with (first
            | (go_at_call 27; refine (shift_any M s (by omega) (by omega) _).mono ?_; rintro e w' ⟨rfl, rfl⟩; rw [← HQ.out.2.1])
            | (at_builtin; refine wpList_app1 rfl (.tmp 25) (.tmp 32) 27 rfl 5 i0 (.int .u8 0) 1 Tryd.underlying27 hi hz0 hz1 hz2 rfl ao nk cap _ (some gk) rfl (hR.keep ((Chgd.refl (fun _ => False) _).alloc _) (fun _ _ h => h)) _ _ _ rfl (MapKept.heap_alloc _ _).1 rfl (by unfold maxLen; omega) (by omega) ?_; intro ao3 cap3 g3 w4 hR3 hch hg3; obtain ⟨ht3, hg3'⟩ := from_alloc' hch hg3; clear hch hg3))
          go_roundw
          case rel =>
            have hO3 : OnlyNew w w4 := hO.trans ht3 (fun j hj e => by cases e; omega)
            have hG : ∃ k, g3 = some k ∧ w.heap.size ≤ k := by
              rcases hg3' with h | ⟨k, h, hk⟩
              · exact ⟨gk, h, hgk⟩
              · exact ⟨k, h, Nat.le_trans hO.size hk⟩
            obtain ⟨k3, rfl, hk3⟩ := hG
            have e1 : nk + 1 = n + (k + 1) := by have := HNK.out; omega
            refine ⟨k + 1, ao3, cap3, k3, by omega, by have := HQ.out.1; go_num, by rw [e1], ?_, hk3, hO3⟩
            rw [be8_snoc M k hlt, ← List.append_assoc, cellsOf_append, ← e1]
            have e2 : cellsOf [byteAt M k] = [Value.int .u8 ((byteAt M k).toNat : Int)] := rfl
            rw [e2]
            exact hR3
          case measure => simp [intOf]
        · obtain rfl : k = 8 := by omega
          have hcv := hR.to_string Tryd.underlying27 Tryd.underlying5 Tryd.underlying9
          have hp : X ++ (be8 M).take 8 = pad l := by rw [HX.out, pad, ← HN.out, List.take_of_length_le (by rw [be8_length]; omega), HS.out.2, HS.out.1, ← HN.out]
          rw [hp] at hcv
          go_wp2
          go_ret
          exact ⟨rfl, hO⟩

end Go.Proofs.YtomalanncdcopaaDoor.Dig
