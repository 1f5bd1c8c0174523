/- The contracts of length, Pad, begins and bytes. -/
import Derived.Test.YtomalanncdcopaaDoorDig1
import Derived.Test.YtomalanncdcopaaDoorDigP
set_option linter.unusedSimpArgs false
set_option linter.unusedVariables false
namespace Go.Proofs.YtomalanncdcopaaDoor.Dig
open Go Go.RowKit Go.Proofs.YtomalanncdcopaaDoor.Mem

theorem info_byte : (Tryd.prog.info? 5).map (fun i => (i.zero, i.size, i.bytes)) = some (some (.int .u8 0), 1, 1) := by kernel_rfl

theorem byte_of (m i : Nat) (hi : i < 8) : IntKind.u8.wrap ((m : Int) / 2 ^ (56 - 8 * i)) = ((byteAt m i).toNat : Int) := by
  have e : (2 : Int) ^ (56 - 8 * i) = ((2 ^ (56 - 8 * i) : Nat) : Int) := by simp
  rw [e]
  simp [IntKind.wrap, IntKind.signed, IntKind.bits, byteAt]

set_option maxHeartbeats 1000000 in
theorem length_any (l : List UInt8) (hl : 8 ≤ l.length) (hl2 : l.length ≤ 140737488355328) (B off cap : Nat) (m : Nat) (hm : m < 1125899906842624) (w : World) (hR : Srow w 1 (some ⟨B, off, none⟩) l.length cap (cellsOf l) (some B)) :
    Calls Tryd.prog 23 #[.slice (some ⟨B, off, none⟩) l.length cap, .int .i64 m] w fun r w' => r = .returned (.tuple #[]) ∧ Srow w' 1 (some ⟨B, off, none⟩) l.length cap (cellsOf (lens l m 8)) (some B) ∧ Chgd (fun j => j = B) w w' := by
  obtain ⟨N, hN⟩ : ∃ N, N = l.length := ⟨_, rfl⟩
  rw [← hN] at hR hl hl2 ⊢
  have HN := Lib.hid hN
  clear hN
  go_enter Tryd.func23, Tryd.ntmps23
  go_wp2
  go_loopw [5] (fun i wr => ∃ k : Nat, k ≤ 8 ∧ i = .int .i64 k ∧ Srow wr 1 (some ⟨B, off, none⟩) N cap (cellsOf (lens l m k)) (some B) ∧ Chgd (fun j => j = B) w wr) (fun i _ => 8 - (intOf i).toNat)
  case atStart => exact ⟨0, Nat.zero_le _, rfl, hR, Chgd.refl _ _⟩
  case round =>
    obtain ⟨k, hk, rfl, hR1, C1⟩ := hrel
    by_cases hlt : k < 8
    · have hll : (lens l m k).length = N := by rw [lens_length]; exact HN.out.symm
      obtain ⟨s, hs⟩ : ∃ s, s = 56 - 8 * k := ⟨_, rfl⟩
      obtain ⟨i, hi⟩ : ∃ i, i = N - 8 + k := ⟨_, rfl⟩
      have hi1 : i < N := by omega
      obtain ⟨hc, hf⟩ := Srow.at_ hR1 (cellsOf_get (i := i) (by omega))
      have hs1 : s ≤ 56 := by omega
      have es : (56 : Int) - 8 * (k : Int) = (s : Int) := by omega
      have ei : (N : Int) - 8 + (k : Int) = (i : Int) := by omega
      have eb : IntKind.u8.wrap (((m * 8 : Nat) : Int) / 2 ^ s) = ((byteAt (m * 8) k).toNat : Int) := by rw [hs]; exact byte_of (m * 8) k hlt
      have em : (m : Int) * 8 = ((m * 8 : Nat) : Int) := by omega
      have hm8 : m * 8 < 9007199254740992 := by omega
      obtain ⟨M, hM⟩ : ∃ M, M = m * 8 := ⟨_, rfl⟩
      rw [← hM] at eb em hm8
      have hset := Srow.set hR1 hi1 (.int .u8 ((byteAt M k).toNat : Int))
      rw [cellsOf_set] at hset
      have hlens : Hid (lens l m (k + 1) = (lens l m k).set i (byteAt M k)) := Lib.hid (by rw [lens, hi, hM, HN.out])
      have HR := Lib.hid hset
      have HM := Lib.hid (⟨hM, hs, hi⟩ : _ ∧ _ ∧ _)
      clear hM hs hi hset hll hR1
      go_wp2
      go_roundw
      case rel => exact ⟨k + 1, by omega, by go_num, by rw [hlens.out]; exact HR.out, C1.trans (Chgd.one _ _ _ _) (fun _ _ h => h)⟩
      case measure => simp [intOf]; omega
    · obtain rfl : k = 8 := by omega
      go_wp2
      go_end0
      exact ⟨rfl, hR1, C1⟩

theorem und8 : Tryd.prog.underlying 5 = some (.int .u8) := Tryd.underlying5
set_option maxHeartbeats 1000000 in
theorem pad_any (l : List UInt8) (hl : l.length ≤ 1000000000000) (w : World) :
    Calls Tryd.prog 22 #[.string (bstr l)] w fun r w' => r = .returned (.string (bstr (pad l))) ∧ OnlyNew w w' := by
  obtain ⟨i0, hi, hz0, hz1, hz2⟩ := info_parts info_byte
  have hsz := bstr_size l
  obtain ⟨b, hb⟩ : ∃ b, b = bstr l := ⟨_, rfl⟩
  rw [← hb] at hsz ⊢
  have hb1 : b.size ≤ 1000000000000 := by omega
  have HB := Lib.hid hb
  have HS := Lib.hid hsz
  clear hb hsz
  go_enter Tryd.func22, Tryd.ntmps22
  go_wp2_with (first
    | (refine wpList_bytes rfl 9 27 (.tmp 4) rfl 5 Tryd.underlying9 Tryd.underlying27 Tryd.underlying5 l (by omega) (by show Value.string b = _; rw [HB.out]) ?_; intro g1 cap1 W1 hR1 hN1 hg1)
    | (at_builtin; refine wpList_app1 rfl (.tmp 5) (.tmp 6) 27 rfl 5 i0 (.int .u8 0) 1 Tryd.underlying27 hi hz0 hz1 hz2 rfl _ l.length cap1 (cellsOf l) (some g1) rfl (hR1.keep ((Chgd.refl (fun _ => False) _).alloc _) (fun _ _ h => h)) W1.heap.size _ _ rfl (MapKept.heap_alloc _ _).1 rfl (by unfold maxLen; omega) (by omega) ?_; intro ao2 cap2 g2 w2 hR2 hch hg2; obtain ⟨ht2, hg2'⟩ := from_alloc' hch hg2; clear hch hg2))
  have hO2 : OnlyNew w w2 := hN1.trans ht2 (fun j hj e => by cases e; omega)
  have hG : ∃ k, g2 = some k ∧ w.heap.size ≤ k := by
    rcases hg2' with h | ⟨k, h, hk⟩
    · exact ⟨g1, h, hg1⟩
    · exact ⟨k, h, Nat.le_trans hN1.size hk⟩
  clear hg2' ht2 hR1 hN1 hg1
  obtain ⟨k2, rfl, hk2⟩ := hG
  obtain ⟨N, hN⟩ : ∃ N, N = l.length := ⟨_, rfl⟩
  rw [← hN] at hR2 hl ⊢
  have hcl : cellsOf l ++ [Value.int .u8 128] = cellsOf (l ++ 128 :: List.replicate 0 0) := by simp [cellsOf]
  rw [hcl] at hR2
  have HN := Lib.hid hN
  clear hcl hN
  have hsz2 : ∀ v : Value, True := fun _ => trivial
  go_loopw [3] (fun v wr => ∃ j ao cap gk, j ≤ zeros N ∧ v = .slice ao (N + 1 + j) cap ∧ Srow wr 1 ao (N + 1 + j) cap (cellsOf (l ++ 128 :: List.replicate j 0)) (some gk) ∧ w.heap.size ≤ gk ∧ OnlyNew w wr)
    (fun v _ => match v with | .slice _ n _ => N + 65 - n | _ => 0)
  case atStart => exact ⟨0, ao2, cap2, k2, Nat.zero_le _, rfl, hR2, hk2, hO2⟩
  case round =>
    obtain ⟨j, ao, cap, gk, hj, rfl, hR, hgk, hO⟩ := hrel
    have hzl := zeros_lt N
    by_cases hlt : j < zeros N
    · have hmiss := zeros_miss N j hlt
      have hne : (((N + 1 + j : Nat) : Int) % 64 == 56) = false := by simp; omega
      have hne2 : (((N + 1 + j : Nat) : Int) % 64 != 56) = true := by simp; omega
      obtain ⟨n, hn⟩ : ∃ n, n = N + 1 + j := ⟨_, rfl⟩
      rw [← hn] at hne hne2 hR ⊢
      have hn1 : n ≤ 1000000001000 := by omega
      have HJ := Lib.hid hn
      clear hn hmiss
      go_wp2_with (at_builtin; refine wpList_app1 rfl (.tmp 12) (.tmp 13) 27 rfl 5 i0 (.int .u8 0) 1 Tryd.underlying27 hi hz0 hz1 hz2 rfl ao n cap _ (some gk) rfl (hR.keep ((Chgd.refl (fun _ => False) _).alloc _) (fun _ _ h => h)) wr.heap.size _ _ rfl (MapKept.heap_alloc _ _).1 rfl (by unfold maxLen; omega) (by omega) ?_; intro ao3 cap3 g3 w3 hR3 hch hg3; obtain ⟨ht3, hg3'⟩ := from_alloc' hch hg3; clear hch hg3)
      go_roundw
      case rel =>
        have hO3 : OnlyNew w w3 := hO.trans ht3 (fun j hj e => by cases e; omega)
        have hG : ∃ k, g3 = some k ∧ w.heap.size ≤ k := by
          rcases hg3' with h | ⟨k, h, hk⟩
          · exact ⟨gk, h, hgk⟩
          · exact ⟨k, h, Nat.le_trans hO.size hk⟩
        obtain ⟨k3, rfl, hk3⟩ := hG
        have e : n + 1 = N + 1 + (j + 1) := by have := HJ.out; omega
        refine ⟨j + 1, ao3, cap3, k3, by omega, by rw [e], ?_, hk3, hO3⟩
        rw [← e]
        have e2 : cellsOf (l ++ 128 :: List.replicate j 0) ++ [Value.int .u8 0] = cellsOf (l ++ 128 :: List.replicate (j + 1) 0) := by
          rw [List.replicate_succ']
          simp [cellsOf]
        rw [← e2]
        exact hR3
      case measure => have := HJ.out; simp; omega
    · obtain rfl : j = zeros N := by omega
      have hhit := zeros_hit N
      have hne : (((N + 1 + zeros N : Nat) : Int) % 64 == 56) = true := by simp; omega
      have hne2 : (((N + 1 + zeros N : Nat) : Int) % 64 != 56) = false := by simp; omega
      obtain ⟨n, hn⟩ : ∃ n, n = N + 1 + zeros N := ⟨_, rfl⟩
      rw [← hn] at hne hne2 hR ⊢
      have hn1 : n ≤ 1000000001000 := by omega
      have HJ := Lib.hid hn
      obtain ⟨X, hX⟩ : ∃ X, X = l ++ 128 :: List.replicate (zeros N) 0 := ⟨_, rfl⟩
      rw [← hX] at hR
      have hXn : Hid (X.length = n) := Lib.hid (by rw [hX, hn, HN.out]; simp; omega)
      have HX := Lib.hid hX
      have hbN : b.size = N := by rw [HS.out, HN.out]
      clear hn hhit hX
      go_wp2_with (first
        | (at_builtin; refine wpList_appz rfl (.tmp 15) (.const (.int .i64 8)) 27 3 rfl 5 .i64 i0 Tryd.underlying27 Tryd.underlying3 hi hz0 hz1 hz2 ao n cap (cellsOf X) (some gk) rfl hR 8 rfl (by omega) (by omega) ?_; intro ao3 cap3 g3 w3 hR3 ht3 hg3')
        | fail)
      have hO3 : OnlyNew w w3 := hO.trans ht3 (fun j hj e => by cases e; omega)
      have hk3 : ∀ k, g3 = some k → w.heap.size ≤ k := fun k hk => by
        rcases hg3' with h | ⟨k', h, hk'⟩
        · rw [hk] at h; cases h; exact hgk
        · rw [hk] at h; cases h; exact Nat.le_trans hO.size hk'
      obtain ⟨B, off, rfl, rfl, _⟩ := hR3.form (by omega)
      have hkB := hk3 B rfl
      have e8 : cellsOf X ++ List.replicate 8 (Value.int .u8 0) = cellsOf (X ++ List.replicate 8 0) := by simp [cellsOf]
      rw [e8] at hR3
      have hl8 : (X ++ List.replicate 8 (0 : UInt8)).length = n + 8 := by rw [List.length_append, hXn.out]; rfl
      have c := length_any (X ++ List.replicate 8 0) (by rw [hl8]; omega) (by rw [hl8]; omega) B off cap3 N (by omega) w3 (by rw [hl8]; exact hR3)
      rw [hl8, lens_all _ _ rfl] at c
      refine c.mono ?_
      rintro e w4 ⟨rfl, hR4, c4⟩
      have hO4 : OnlyNew w w4 := hO3.trans c4 (fun j hj e => by omega)
      have hcv := hR4.to_string Tryd.underlying27 Tryd.underlying5 Tryd.underlying9
      have hp : X ++ be8 (N * 8) = pad l := by rw [HX.out, pad, ← HN.out]
      rw [hp] at hcv
      clear c hR4 hR3 e8 hl8
      go_wp2
      go_ret
      exact ⟨rfl, hO4⟩

set_option maxHeartbeats 1000000 in
theorem begins_any (w : World) : Calls Tryd.prog 20 #[] w fun r w' => r = .returned (.agg (wcells iv).toArray) ∧ OnlyNew w w' := by
  obtain ⟨bv, hbv⟩ : ∃ bv, bv = (wcells iv).toArray := ⟨_, rfl⟩
  rw [← hbv]
  have HB := Lib.hid hbv
  clear hbv
  go_enter Tryd.func20, Tryd.ntmps20
  go_wp2_with (first
    | (refine wpList_storeRow rfl 37 (.tmp 0) (.tmp 1) rfl w.heap.size 0 _ (wcells iv) rfl rfl (Row.new _ _ _) 8 size8 rfl rfl (wcells_one _) ?_; intro w2 B2 _ _ c2))
  refine bodyPost_ret (v := .agg bv) ?_ rfl ⟨rfl, ((Chgd.refl (fun _ => False) w).alloc _).trans c2 (fun j hj e => by omega)⟩
  rw [HB.out]
  exact results_cell_mid (p := 0) (ty := 37) rfl _ w2 w.heap.size 0 (wcells iv) _ rfl B2.1 Tryd.underlying37 rfl size8
end Go.Proofs.YtomalanncdcopaaDoor.Dig
