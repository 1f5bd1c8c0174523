/- The contracts of bytes, of a Stream, and of Sum. -/
import Derived.Test.YtomalanncdcopaaDoorDigQ
set_option linter.unusedSimpArgs false
set_option linter.unusedVariables false
namespace Go.Proofs.YtomalanncdcopaaDoor.Dig
open Go Go.RowKit Go.Proofs.YtomalanncdcopaaDoor.Mem

theorem size32 : (Tryd.prog.info? 24).map (·.size) = some 32 := by kernel_rfl
theorem out_byte (h : List Word) (i s : Nat) (hs : s = 24 - 8 * (i % 4)) (q : Nat) (hq : q = i / 4) : IntKind.u8.wrap (wn (wat h q) / 2 ^ s) = ((outAt h i).toNat : Int) := by
  subst hs hq
  unfold outAt wn
  have e : (2 : Int) ^ (24 - 8 * (i % 4)) = ((2 ^ (24 - 8 * (i % 4)) : Nat) : Int) := by simp
  rw [e]
  simp [IntKind.wrap, IntKind.signed, IntKind.bits]

set_option maxHeartbeats 1000000 in
theorem bytes_any (h : List Word) (hh : h.length = 8) (w : World) :
    Calls Tryd.prog 24 #[.agg (wcells h).toArray] w fun r w' => r = .returned (.agg (cellsOf (hashOf h)).toArray) ∧ OnlyNew w w' := by
  obtain ⟨hv, hhv⟩ : ∃ hv, hv = (wcells h).toArray := ⟨_, rfl⟩
  obtain ⟨rv, hrv⟩ : ∃ rv, rv = (cellsOf (hashOf h)).toArray := ⟨_, rfl⟩
  rw [← hhv, ← hrv]
  have HV := Lib.hid hhv
  have HRV := Lib.hid hrv
  clear hhv hrv
  have HH := Lib.hid hh
  clear hh
  go_enter Tryd.func24, Tryd.ntmps24
  go_wp2
  have B1 := (Row.newAt w hv 37 (wcells h) w.heap.size rfl (by rw [HV.out])).alloc (.cells (cellsOf (outs h 0)).toArray 24)
  have B2 := Row.newAt (w.alloc (.cells hv 37)) (cellsOf (outs h 0)).toArray 24 (cellsOf (outs h 0)) (w.heap.size + 1) (by simp) rfl
  have C0 := ((Chgd.refl (fun _ => False) w).alloc (.cells hv 37)).alloc (.cells (cellsOf (outs h 0)).toArray 24)
  go_loopw [4] (fun i wr => ∃ k : Nat, k ≤ 32 ∧ i = .int .i64 k ∧ Row wr (w.heap.size + 1) 0 (cellsOf (outs h k)) ∧ Row wr w.heap.size 0 (wcells h) ∧ OnlyNew w wr) (fun i _ => 32 - (intOf i).toNat)
  case atStart => exact ⟨0, Nat.zero_le _, rfl, B2, B1, C0⟩
  case round =>
    obtain ⟨k, hk, rfl, B2a, B1a, C1⟩ := hrel
    clear B1 B2 C0
    by_cases hlt : k < 32
    · obtain ⟨q, hq⟩ : ∃ q, q = k / 4 := ⟨_, rfl⟩
      obtain ⟨r, hr⟩ : ∃ r, r = k % 4 := ⟨_, rfl⟩
      obtain ⟨s, hs⟩ : ∃ s, s = 24 - 8 * r := ⟨_, rfl⟩
      have hq1 : q < 8 := by omega
      have hr1 : r ≤ 3 := by omega
      have hs1 : s ≤ 24 := by omega
      have eq1 : (k : Int) / 4 = (q : Int) := by omega
      have er1 : (k : Int) % 4 = (r : Int) := by omega
      have es1 : (24 : Int) - 8 * (r : Int) = (s : Int) := by omega
      have eb := out_byte h k s (by rw [hs, hr]) q hq
      have c1 := B1a.cell0 (i := q) (wcells_get (by rw [HH.out]; omega))
      have f2 := B2a.free0 (i := k) (by rw [cellsOf_length, outs_length]; omega)
      have c2 := B2a.cell0 (i := k) (cellsOf_get (by rw [outs_length]; omega))
      have hset := Row.set0 B2a (i := k) (by rw [cellsOf_length, outs_length]; omega) (.int .u8 ((outAt h k).toNat : Int))
      rw [cellsOf_set] at hset
      have HR := Lib.hid hset
      have B1' := Lib.hid B1a
      have HQ := Lib.hid (⟨hq, hr, hs⟩ : _ ∧ _ ∧ _)
      clear hset hq hr hs B1a B2a
      go_wp2
      go_roundw
      case rel => exact ⟨k + 1, by omega, by go_num, HR.out, B1'.out.keep (Chgd.one _ _ _ _) (fun e => by omega), C1.trans (Chgd.one _ _ _ _) (fun j hj e => by omega)⟩
      case measure => simp [intOf]; omega
    · obtain rfl : k = 32 := by omega
      have hl32 : Hid ((cellsOf (hashOf h)).length = 32) := Lib.hid (by rw [cellsOf_length, hashOf_length])
      have B2a : Row wr (w.heap.size + 1) 0 (cellsOf (hashOf h)) := B2a
      go_wp2_with (first
        | (refine wpList_loadRow rfl 24 (.tmp 2) rfl (w.heap.size + 1) 0 rfl _ B2a _ Tryd.underlying24 rfl 32 size32 hl32.out ?_; rw [← HRV.out])
        | (refine wpList_storeRow rfl 24 (.tmp 2) (.tmp 20) rfl (w.heap.size + 1) 0 _ (cellsOf (hashOf h)) rfl (by show Value.agg rv = _; rw [HRV.out]) B2a 32 size32 hl32.out hl32.out (cellsOf_one _) ?_; intro w8 B8 _ _ c8))
      refine bodyPost_ret (v := .agg rv) ?_ rfl ⟨rfl, C1.trans c8 (fun j hj e => by omega)⟩
      rw [HRV.out]
      exact results_cell_mid (p := 2) (ty := 24) rfl _ w8 (w.heap.size + 1) 0 (cellsOf (hashOf h)) _ rfl B8.1 Tryd.underlying24 rfl (by rw [hl32.out]; exact size32)
end Go.Proofs.YtomalanncdcopaaDoor.Dig
