/- The contract of the reference's Compress. -/
import Derived.Test.YtomalanncdcopaaDoorDigR2
import Derived.Test.YtomalanncdcopaaDoorDigR3
import Derived.Deep.Cut
set_option linter.unusedSimpArgs false
set_option linter.unusedVariables false
namespace Go.Proofs.YtomalanncdcopaaDoor.Dig
open Go Go.RowKit Go.Proofs.YtomalanncdcopaaDoor.Mem

theorem turn_i (x : Word) (n : Nat) (m : Int) (hm : m = (n : Int)) (hn : n < 32) (w : World) :
    Calls Tryd.prog 29 #[.int .u64 (wn x), .int .i64 m] w fun r w' => r = .returned (.int .u64 (wn (rr x n))) ∧ w = w' := by subst hm; exact turn_any x n hn w
theorem shift_i (x : Word) (n : Nat) (m : Int) (hm : m = (n : Int)) (hn : n < 32) (w : World) :
    Calls Tryd.prog 27 #[.int .u64 (wn x), .int .i64 m] w fun r w' => r = .returned (.int .u64 (wn (x >>> n))) ∧ w = w' := by
  subst hm
  have h := shift_any x.toNat n (by have := x.isLt; omega) (by omega) w
  have e : ((x.toNat / 2 ^ n : Nat) : Int) = wn (x >>> n) := by rw [← w_shr]; unfold wn; simp
  rw [e] at h
  exact h

set_option maxRecDepth 100000 in
set_option maxHeartbeats 4000000 in
theorem refcomp_any (h : List Word) (hh : h.length = 8) (bs : List UInt8) (hb : bs.length = 64) (w : World) :
    Calls Tryd.prog 26 #[.agg (wcells64 h).toArray, .string (bstr bs)] w fun r w' => r = .returned (.tuple #[.agg (wcells64 (comp h bs)).toArray, .bool true]) ∧ OnlyNew w w' := by
  unfold comp
  obtain ⟨rv, hrv⟩ : ∃ rv, rv = (wcells64 (sums h (rounds h (sched (part bs 64) 64) 64) 8)).toArray := ⟨_, rfl⟩
  obtain ⟨hv, hhv⟩ : ∃ hv, hv = (wcells64 h).toArray := ⟨_, rfl⟩
  rw [← hhv, ← hrv]
  have HRV := Lib.hid hrv
  clear hrv
  obtain ⟨b, hbs⟩ : ∃ b, b = bstr bs := ⟨_, rfl⟩
  rw [← hbs]
  have hsz : b.size = 64 := by rw [hbs, bstr_size]; exact hb
  have HV := Lib.hid hhv
  have HB := Lib.hid (⟨hbs, hb⟩ : _ ∧ _)
  clear hhv hbs hb
  obtain ⟨zv, hzv⟩ : ∃ zv, zv = (wcells64 (List.replicate 64 0)).toArray := ⟨_, rfl⟩
  have HZ := Lib.hid hzv
  clear hzv
  go_enter Tryd.func26, Tryd.ntmps26
  go_wp2_with (first
    | (refine wpList_storeRow rfl 59 (.tmp 6) (.tmp 28) rfl (w.heap.size + 1 + 1) 0 _ (wcells64 (List.replicate 64 0)) rfl rfl (Row.newAt _ _ _ _ _ (by simp) rfl) 64 size64v rfl rfl (wcells64_one _) ?_; intro W1 B6 _ _ c6))
  have B2 := (((Row.newAt w hv 51 (wcells64 h) w.heap.size rfl (by rw [HV.out])).alloc _).alloc _).keep c6 (fun e => by omega)
  have B4 := ((Row.newAt (w.alloc (.cells hv 51)) _ 51 (wcells64 zero8) (w.heap.size + 1) (by simp) rfl).alloc _).keep c6 (fun e => by omega)
  have C0 : OnlyNew w W1 := ((((Chgd.refl _ w).alloc _).alloc _).alloc _).trans c6 (fun j hj e => by omega)
  clear c6
  generalize Value.agg #[Value.int .u64 0, Value.int .u64 0, Value.int .u64 0, Value.int .u64 0, Value.int .u64 0, Value.int .u64 0, Value.int .u64 0, Value.int .u64 0, Value.int .u64 0, Value.int .u64 0, Value.int .u64 0, Value.int .u64 0, Value.int .u64 0, Value.int .u64 0, Value.int .u64 0, Value.int .u64 0, Value.int .u64 0, Value.int .u64 0, Value.int .u64 0, Value.int .u64 0, Value.int .u64 0, Value.int .u64 0, Value.int .u64 0, Value.int .u64 0, Value.int .u64 0, Value.int .u64 0, Value.int .u64 0, Value.int .u64 0, Value.int .u64 0, Value.int .u64 0, Value.int .u64 0, Value.int .u64 0, Value.int .u64 0, Value.int .u64 0, Value.int .u64 0, Value.int .u64 0, Value.int .u64 0, Value.int .u64 0, Value.int .u64 0, Value.int .u64 0, Value.int .u64 0, Value.int .u64 0, Value.int .u64 0, Value.int .u64 0, Value.int .u64 0, Value.int .u64 0, Value.int .u64 0, Value.int .u64 0, Value.int .u64 0, Value.int .u64 0, Value.int .u64 0, Value.int .u64 0, Value.int .u64 0, Value.int .u64 0, Value.int .u64 0, Value.int .u64 0, Value.int .u64 0, Value.int .u64 0, Value.int .u64 0, Value.int .u64 0, Value.int .u64 0, Value.int .u64 0, Value.int .u64 0, Value.int .u64 0] = zz
  rw [← rw64_zero bs] at B6
  go_loopw [7, 8] (fun i _ wr => ∃ k : Nat, k ≤ 16 ∧ i = .int .i64 k ∧ Row wr (w.heap.size + 1 + 1) 0 (wcells64 (rw64 bs k 0)) ∧ Chgd (fun j => j = w.heap.size + 1 + 1) W1 wr) (fun i _ _ => 16 - (intOf i).toNat)
  case atStart => exact ⟨0, Nat.zero_le _, rfl, B6, Chgd.refl _ _⟩
  case round =>
    obtain ⟨i, hi, rfl, B6', C1⟩ := hrel
    by_cases hlt : i < 16
    · obtain ⟨wo, rfl⟩ : ∃ x : World, x = wr := ⟨_, rfl⟩
      go_wp2
      go_loopw [8] (fun v wr => ∃ k : Nat, k ≤ 4 ∧ v = .int .i64 k ∧ Row wr (w.heap.size + 1 + 1) 0 (wcells64 (rw64 bs i k)) ∧ Chgd (fun j => j = w.heap.size + 1 + 1) W1 wr) (fun v _ => 4 - (intOf v).toNat)
      case atStart => exact ⟨0, Nat.zero_le _, rfl, B6', C1⟩
      case round =>
        obtain ⟨k, hk, rfl, B7, C2⟩ := hrel
        by_cases hlt2 : k < 4
        ·
          obtain ⟨L, hL⟩ : ∃ L, L = rw64 bs i k := ⟨_, rfl⟩
          have hLl : L.length = 64 := by rw [hL, rw64_length]
          obtain ⟨y, hy⟩ : ∃ y, y = pn bs i k := ⟨_, rfl⟩
          have hy24 : y < 16777216 := by
            rw [hy]
            exact Nat.lt_of_lt_of_le (pn_lt bs i k) (Nat.le_trans (Nat.pow_le_pow_right (by decide) (show k ≤ 3 by omega)) (by decide))
          have hwy : wn (wat L i) = (y : Int) := by rw [hL, rw64_at bs i k (by omega), ← hy, wn_ofNat _ (by omega)]
          obtain ⟨j, hj⟩ : ∃ j, j = 4 * i + k := ⟨_, rfl⟩
          have hj64 : j < 64 := by omega
          obtain ⟨c, hc⟩ : ∃ c, c = bs.getD j 0 := ⟨_, rfl⟩
          have hbl := HB.out.2
          have hjb : j < b.size := by omega
          have hbc : ((b[j]'hjb).toNat : Int) = (c.toNat : Int) := by
            have : b[j]? = some c := by
              rw [HB.out.1, hc]
              show bs.toArray[j]? = _
              simp [List.getD, hbl, hj64]
            rw [getElem?_pos b j hjb] at this
            rw [Option.some.inj this]
          obtain ⟨n, hn⟩ : ∃ n, n = c.toNat := ⟨_, rfl⟩
          have hn1 : n < 256 := by rw [hn]; exact c.toNat_lt
          rw [← hn] at hbc
          have hjj : 4 * (i : Int) + (k : Int) = (j : Int) := by omega
          have hset := rw64_set bs i k
          have hpk : pn bs i (k + 1) = y * 256 + n := by rw [pn, ← hy, ← hj, ← hc, ← hn]
          rw [hpk, ← hL] at hset
          have hfin : wn (BitVec.ofNat 32 (y * 256 + n)) = (y : Int) * 256 + n := by rw [wn_ofNat _ (by omega)]; omega
          have HS := Lib.hid (⟨hset, hLl, hfin⟩ : _ ∧ _ ∧ _)
          rw [← hL] at B7
          have HWY := Lib.hid (⟨hwy, hjj, hbc⟩ : _ ∧ _ ∧ _)
          clear hL hLl hy hc hn hset hpk hfin hj hwy hjj hbc hbl
          go_wp2
          obtain ⟨hwy, hjj, hbc⟩ := HWY.out
          refine Lin.region_lin [0, 0, 2, 6, 14, 0, 0, 64, 0, 448, 992, 2016, 4094, 8191, 16383] [] [14] (fun j => j = w.heap.size + 1 + 1) (fun e w' => Row w' (w.heap.size + 1 + 1) 0 (wcells64 (two L (rw64 bs i (k + 1)) e))) _ (by kernel_rfl) rfl (by kernel_rfl) (B7.drew) ?_
          -- 0 37:move
          (refine Lin.walk_pure ?_ (by kernel_rfl) (by kernel_rfl) (by rfl) ?_ ?_; rotate_left; (focus (intro w; (go_simp; (try go_ints); (try simp only [IntWalk.iteOmega]); (try go_simp); try with_reducible rfl))); (intro S' hS'; simp only [Act.put, List.setIfInBounds_toArray, List.set_cons_zero, List.set_cons_succ] at hS'; subst hS'))
          -- 1 38:move
          (refine Lin.walk_pure ?_ (by kernel_rfl) (by kernel_rfl) (by rfl) ?_ ?_; rotate_left; (focus (intro w; (go_simp; (try go_ints); (try simp only [IntWalk.iteOmega]); (try go_simp); try with_reducible rfl))); (intro S' hS'; simp only [Act.put, List.setIfInBounds_toArray, List.set_cons_zero, List.set_cons_succ] at hS'; subst hS'))
          -- 2 39:indexAddr
          (refine Lin.walk_pure ?_ (by kernel_rfl) (by kernel_rfl) (by rfl) ?_ ?_; rotate_left; (focus (intro w; (go_simp; (try go_ints); (try simp only [IntWalk.iteOmega]); (try go_simp); try with_reducible rfl))); (intro S' hS'; simp only [Act.put, List.setIfInBounds_toArray, List.set_cons_zero, List.set_cons_succ] at hS'; subst hS'))
          -- 3 40:load
          (refine Lin.walk_read ?_ (by kernel_rfl) (by kernel_rfl) (by kernel_rfl) (by rfl) ?_ ?_; rotate_left; (focus (intro w1 hC hI; have h1 : Row w1 (w.heap.size + 1 + 1) 0 (wcells64 L) := hI; have c1 := h1.cell0 (i := i) (wcells64_get (by have := HS.out.2.1; omega)); rw [hwy] at c1; (go_simp; (try go_ints); (try simp only [IntWalk.iteOmega]); (try go_simp); try with_reducible rfl))); (intro S' hS'; simp only [Act.put, List.setIfInBounds_toArray, List.set_cons_zero, List.set_cons_succ] at hS'; subst hS'))
          -- 4 41:binOp
          (refine Lin.walk_pure ?_ (by kernel_rfl) (by kernel_rfl) (by rfl) ?_ ?_; rotate_left; (focus (intro w; (go_simp; (try go_ints); (try simp only [IntWalk.iteOmega]); (try go_simp); try with_reducible rfl))); (intro S' hS'; simp only [Act.put, List.setIfInBounds_toArray, List.set_cons_zero, List.set_cons_succ] at hS'; subst hS'))
          -- 5 42:move
          (refine Lin.walk_pure ?_ (by kernel_rfl) (by kernel_rfl) (by rfl) ?_ ?_; rotate_left; (focus (intro w; (go_simp; (try go_ints); (try simp only [IntWalk.iteOmega]); (try go_simp); try with_reducible rfl))); (intro S' hS'; simp only [Act.put, List.setIfInBounds_toArray, List.set_cons_zero, List.set_cons_succ] at hS'; subst hS'))
          -- 6 43:move
          (refine Lin.walk_pure ?_ (by kernel_rfl) (by kernel_rfl) (by rfl) ?_ ?_; rotate_left; (focus (intro w; (go_simp; (try go_ints); (try simp only [IntWalk.iteOmega]); (try go_simp); try with_reducible rfl))); (intro S' hS'; simp only [Act.put, List.setIfInBounds_toArray, List.set_cons_zero, List.set_cons_succ] at hS'; subst hS'))
          -- 7 44:binOp
          (refine Lin.walk_pure ?_ (by kernel_rfl) (by kernel_rfl) (by rfl) ?_ ?_; rotate_left; (focus (intro w; (go_simp; (try go_ints); (try simp only [IntWalk.iteOmega]); (try go_simp); try with_reducible rfl))); (intro S' hS'; simp only [Act.put, List.setIfInBounds_toArray, List.set_cons_zero, List.set_cons_succ] at hS'; subst hS'))
          -- 8 45:move
          (refine Lin.walk_pure ?_ (by kernel_rfl) (by kernel_rfl) (by rfl) ?_ ?_; rotate_left; (focus (intro w; (go_simp; (try go_ints); (try simp only [IntWalk.iteOmega]); (try go_simp); try with_reducible rfl))); (intro S' hS'; simp only [Act.put, List.setIfInBounds_toArray, List.set_cons_zero, List.set_cons_succ] at hS'; subst hS'))
          -- 9 46:binOp
          (refine Lin.walk_pure ?_ (by kernel_rfl) (by kernel_rfl) (by rfl) ?_ ?_; rotate_left; (focus (intro w; (go_simp; (try go_ints); (try simp only [IntWalk.iteOmega]); (try go_simp); try with_reducible rfl))); (intro S' hS'; simp only [Act.put, List.setIfInBounds_toArray, List.set_cons_zero, List.set_cons_succ] at hS'; subst hS'))
          -- 10 47:index
          (refine Lin.walk_pure ?_ (by kernel_rfl) (by kernel_rfl) (by rfl) ?_ ?_; rotate_left; (focus (intro w; (go_simp; (try go_ints); (try simp only [IntWalk.iteOmega]); (try go_simp); try with_reducible rfl))); (intro S' hS'; simp only [Act.put, List.setIfInBounds_toArray, List.set_cons_zero, List.set_cons_succ] at hS'; subst hS'))
          -- 11 48:convert
          (refine Lin.walk_pure ?_ (by kernel_rfl) (by kernel_rfl) (by rfl) ?_ ?_; rotate_left; (focus (intro w; (go_simp; (try go_ints); (try simp only [IntWalk.iteOmega]); (try go_simp); try with_reducible rfl))); (intro S' hS'; simp only [Act.put, List.setIfInBounds_toArray, List.set_cons_zero, List.set_cons_succ] at hS'; subst hS'))
          -- 12 49:binOp
          (refine Lin.walk_pure ?_ (by kernel_rfl) (by kernel_rfl) (by rfl) ?_ ?_; rotate_left; (focus (intro w; (go_simp; (try go_ints); (try simp only [IntWalk.iteOmega]); (try go_simp); try with_reducible rfl))); (intro S' hS'; simp only [Act.put, List.setIfInBounds_toArray, List.set_cons_zero, List.set_cons_succ] at hS'; subst hS'))
          -- 13 50:indexAddr
          (refine Lin.walk_pure ?_ (by kernel_rfl) (by kernel_rfl) (by rfl) ?_ ?_; rotate_left; (focus (intro w; (go_simp; (try go_ints); (try simp only [IntWalk.iteOmega]); (try go_simp); try with_reducible rfl))); (intro S' hS'; simp only [Act.put, List.setIfInBounds_toArray, List.set_cons_zero, List.set_cons_succ] at hS'; subst hS'))
          -- 14 -:store
          (refine Lin.walk_last [] undef (by kernel_rfl) rfl (by kernel_rfl) (fun _ => by rfl) ?_ ?_; (focus (intro f w1 hF hC hI; dsimp only at hC hI; clear hF; have h1 : Row w1 (w.heap.size + 1 + 1) 0 (wcells64 L) := hI; have hl := HS.out.2.1; have c1 := h1.free0 (i := i) (by rw [wcells64_length]; omega); have c2 := h1.cell0 (i := i) (wcells64_get (by omega)); simp only [Lin.over_nil]; go_simp; refine ⟨rfl, Chgd.one _ _ _ _, ?_⟩; show Row _ _ 0 (wcells64 (rw64 bs i (k + 1))); rw [← HS.out.1, ← wcells64_set, HS.out.2.2]; exact Row.set0 (i := i) (cs := wcells64 L) h1 (by rw [wcells64_length]; omega) _)); (intro S' hS'; simp only [Act.put] at hS'; subst hS'))
          (refine Lin.walk_end0 rfl ?_; intro W' hC hI)
          have B8 : Row W' (w.heap.size + 1 + 1) 0 (wcells64 (rw64 bs i (k + 1))) := hI
          replace C2 := C2.trans hC (fun _ _ h => h)
          clear hI hC hwy hjj hbc
          go_wp2
          go_roundw
          case rel => exact ⟨k + 1, by omega, by go_num, B8, C2⟩
          case measure => simp [intOf]; omega
        · obtain rfl : k = 4 := by omega
          rw [rw64_next] at B7
          go_wp2
          go_roundw
          case rel => exact ⟨i + 1, by omega, by go_num, B7, C2⟩
          case measure => simp [intOf]; omega
    · obtain rfl : i = 16 := by omega
      go_wp2
      rw [rw64_part] at B6'
      have C1' := C0.trans C1 (fun j hj e => by omega)
      have B2' := B2.keep C1 (fun e => by omega)
      have B4' := B4.keep C1 (fun e => by omega)
      clear B2 B4 B6 C0 C1 hi hlt
      obtain ⟨ws, hws⟩ : ∃ ws, ws = part bs 64 := ⟨_, rfl⟩
      have hl64 : Hid (ws.length = 64) := Lib.hid (by rw [hws, part_length])
      rw [← hws] at B6'
      have HWS := Lib.hid hws
      clear hws
      obtain ⟨wo, rfl⟩ : ∃ x : World, x = wr := ⟨_, rfl⟩
      simp only [Int.cast_ofNat_Int]
      go_loopw [9] (fun i wx => ∃ k : Nat, 16 ≤ k ∧ k ≤ 64 ∧ i = .int .i64 k ∧ Row wx (w.heap.size + 1 + 1) 0 (wcells64 (sched ws k)) ∧ Chgd (fun j => j = w.heap.size + 1 + 1) wo wx) (fun i _ => 64 - (intOf i).toNat)
      case atStart => exact ⟨16, by omega, by omega, rfl, B6', Chgd.refl _ _⟩
      case round =>
        obtain ⟨k, hk16, hk, rfl, B6'', C2⟩ := hrel
        by_cases hlt : k < 64
        ·
          have hlen : (wcells64 (sched ws k)).length = 64 := by rw [wcells64_length, sched_length]; exact hl64.out
          obtain ⟨wk, hwk⟩ : ∃ wk, wk = sched ws k := ⟨_, rfl⟩
          rw [← hwk] at B6'' hlen
          have HL := Lib.hid hlen
          have HK := Lib.hid hwk
          obtain ⟨x, hx⟩ : ∃ x, x = wat wk (k - 15) := ⟨_, rfl⟩
          obtain ⟨y, hy⟩ : ∃ y, y = wat wk (k - 2) := ⟨_, rfl⟩
          have c1 := B6''.cell0 (i := k - 15) (wcells64_get (by rw [wcells64_length] at hlen; omega))
          have c2 := B6''.cell0 (i := k - 2) (wcells64_get (by rw [wcells64_length] at hlen; omega))
          rw [← hx] at c1
          rw [← hy] at c2
          obtain ⟨sat, hsat⟩ : ∃ t, t = rr x 7 ^^^ rr x 18 := ⟨_, rfl⟩
          obtain ⟨sa, hsa⟩ : ∃ t, t = sat ^^^ x >>> 3 := ⟨_, rfl⟩
          have fsa1 := v_xor (rr x 7) (rr x 18)
          have fsa2 := v_xor sat (x >>> 3)
          rw [← hsat] at fsa1
          rw [← hsa] at fsa2
          obtain ⟨sbt, hsbt⟩ : ∃ t, t = rr y 17 ^^^ rr y 19 := ⟨_, rfl⟩
          obtain ⟨sb, hsb⟩ : ∃ t, t = sbt ^^^ y >>> 10 := ⟨_, rfl⟩
          have fsb1 := v_xor (rr y 17) (rr y 19)
          have fsb2 := v_xor sbt (y >>> 10)
          rw [← hsbt] at fsb1
          rw [← hsb] at fsb2
          have HF := Lib.hid (⟨fsa1, fsa2, fsb1, fsb2⟩ : _ ∧ _ ∧ _ ∧ _)
          clear fsa1 fsa2 fsb1 fsb2
          have HXY := Lib.hid (⟨hx, hy, hsat, hsa, hsbt, hsb⟩ : _ ∧ _ ∧ _ ∧ _ ∧ _ ∧ _)
          have B7 := Lib.hid B6''
          clear hwk hlen hx hy hsat hsa hsbt hsb B6''
          go_wp2_with fail
          refine (turn_i x 7 _ rfl (by decide) _).mono ?_
          rintro e w' ⟨rfl, rfl⟩
          go_wp2_with fail
          refine (turn_i x 18 _ rfl (by decide) _).mono ?_
          rintro e w' ⟨rfl, rfl⟩
          have fx := HF.out.1
          go_wp2_with fail
          clear fx
          go_wp2_with fail
          refine (shift_i x 3 _ rfl (by decide) _).mono ?_
          rintro e w' ⟨rfl, rfl⟩
          have fx := HF.out.2.1
          go_wp2_with fail
          clear fx
          go_wp2_with fail
          refine (turn_i y 17 _ rfl (by decide) _).mono ?_
          rintro e w' ⟨rfl, rfl⟩
          go_wp2_with fail
          refine (turn_i y 19 _ rfl (by decide) _).mono ?_
          rintro e w' ⟨rfl, rfl⟩
          have fx := HF.out.2.2.1
          go_wp2_with fail
          clear fx
          go_wp2_with fail
          refine (shift_i y 10 _ rfl (by decide) _).mono ?_
          rintro e w' ⟨rfl, rfl⟩
          have fx := HF.out.2.2.2
          go_wp2_with fail
          clear fx
          have w2 := s2
          have w3 := s3
          have w4 := s4
          have n4 := m4
          have vw := v_wrap
          refine Lin.region_lin [0, 0, 2, 6, 14, 0, 62, 0, 128, 384, 896, 2046, 0, 8190, 16382, 32767, 65535] [] [16] (fun j => j = w.heap.size + 1 + 1) (fun e w' => Row w' (w.heap.size + 1 + 1) 0 (wcells64 (two wk (sched ws (k + 1)) e))) _ (by kernel_rfl) rfl (by kernel_rfl) (B7.out.drew) ?_
          -- 0 79:move
          (refine Lin.walk_pure ?_ (by kernel_rfl) (by kernel_rfl) (by rfl) ?_ ?_; rotate_left; (focus (intro w; (go_simp; (try go_ints); (try simp only [IntWalk.iteOmega]); (try go_simp); try with_reducible rfl))); (intro S' hS'; simp only [Act.put, List.setIfInBounds_toArray, List.set_cons_zero, List.set_cons_succ] at hS'; subst hS'))
          -- 1 80:move
          (refine Lin.walk_pure ?_ (by kernel_rfl) (by kernel_rfl) (by rfl) ?_ ?_; rotate_left; (focus (intro w; (go_simp; (try go_ints); (try simp only [IntWalk.iteOmega]); (try go_simp); try with_reducible rfl))); (intro S' hS'; simp only [Act.put, List.setIfInBounds_toArray, List.set_cons_zero, List.set_cons_succ] at hS'; subst hS'))
          -- 2 81:binOp
          (refine Lin.walk_pure ?_ (by kernel_rfl) (by kernel_rfl) (by rfl) ?_ ?_; rotate_left; (focus (intro w; (go_simp; (try go_ints); (try simp only [IntWalk.iteOmega]); (try go_simp); try with_reducible rfl))); (intro S' hS'; simp only [Act.put, List.setIfInBounds_toArray, List.set_cons_zero, List.set_cons_succ] at hS'; subst hS'))
          -- 3 82:indexAddr
          (refine Lin.walk_pure ?_ (by kernel_rfl) (by kernel_rfl) (by rfl) ?_ ?_; rotate_left; (focus (intro w; (go_simp; (try go_ints); (try simp only [IntWalk.iteOmega]); (try go_simp); try with_reducible rfl))); (intro S' hS'; simp only [Act.put, List.setIfInBounds_toArray, List.set_cons_zero, List.set_cons_succ] at hS'; subst hS'))
          -- 4 83:load
          (refine Lin.walk_read ?_ (by kernel_rfl) (by kernel_rfl) (by kernel_rfl) (by rfl) ?_ ?_; rotate_left; (focus (intro w1 hC hI; have hI : Row w1 (w.heap.size + 1 + 1) 0 (wcells64 wk) := hI; have c1 := hI.cell0 (i := k - 16) (wcells64_get (by have := HL.out; rw [wcells64_length] at this; omega)); have c2 := hI.cell0 (i := k - 7) (wcells64_get (by have := HL.out; rw [wcells64_length] at this; omega)); (go_simp; (try go_ints); (try simp only [IntWalk.iteOmega]); (try go_simp); try with_reducible rfl))); (intro S' hS'; simp only [Act.put, List.setIfInBounds_toArray, List.set_cons_zero, List.set_cons_succ] at hS'; subst hS'))
          -- 5 84:move
          (refine Lin.walk_pure ?_ (by kernel_rfl) (by kernel_rfl) (by rfl) ?_ ?_; rotate_left; (focus (intro w; (go_simp; (try go_ints); (try simp only [IntWalk.iteOmega]); (try go_simp); try with_reducible rfl))); (intro S' hS'; simp only [Act.put, List.setIfInBounds_toArray, List.set_cons_zero, List.set_cons_succ] at hS'; subst hS'))
          -- 6 85:binOp
          (refine Lin.walk_pure ?_ (by kernel_rfl) (by kernel_rfl) (by rfl) ?_ ?_; rotate_left; (focus (intro w; (go_simp; (try go_ints); (try simp only [IntWalk.iteOmega]); (try go_simp); try with_reducible rfl))); (intro S' hS'; simp only [Act.put, List.setIfInBounds_toArray, List.set_cons_zero, List.set_cons_succ] at hS'; subst hS'))
          -- 7 86:move
          (refine Lin.walk_pure ?_ (by kernel_rfl) (by kernel_rfl) (by rfl) ?_ ?_; rotate_left; (focus (intro w; (go_simp; (try go_ints); (try simp only [IntWalk.iteOmega]); (try go_simp); try with_reducible rfl))); (intro S' hS'; simp only [Act.put, List.setIfInBounds_toArray, List.set_cons_zero, List.set_cons_succ] at hS'; subst hS'))
          -- 8 87:binOp
          (refine Lin.walk_pure ?_ (by kernel_rfl) (by kernel_rfl) (by rfl) ?_ ?_; rotate_left; (focus (intro w; (go_simp; (try go_ints); (try simp only [IntWalk.iteOmega]); (try go_simp); try with_reducible rfl))); (intro S' hS'; simp only [Act.put, List.setIfInBounds_toArray, List.set_cons_zero, List.set_cons_succ] at hS'; subst hS'))
          -- 9 88:indexAddr
          (refine Lin.walk_pure ?_ (by kernel_rfl) (by kernel_rfl) (by rfl) ?_ ?_; rotate_left; (focus (intro w; (go_simp; (try go_ints); (try simp only [IntWalk.iteOmega]); (try go_simp); try with_reducible rfl))); (intro S' hS'; simp only [Act.put, List.setIfInBounds_toArray, List.set_cons_zero, List.set_cons_succ] at hS'; subst hS'))
          -- 10 89:load
          (refine Lin.walk_read ?_ (by kernel_rfl) (by kernel_rfl) (by kernel_rfl) (by rfl) ?_ ?_; rotate_left; (focus (intro w1 hC hI; have hI : Row w1 (w.heap.size + 1 + 1) 0 (wcells64 wk) := hI; have c1 := hI.cell0 (i := k - 16) (wcells64_get (by have := HL.out; rw [wcells64_length] at this; omega)); have c2 := hI.cell0 (i := k - 7) (wcells64_get (by have := HL.out; rw [wcells64_length] at this; omega)); (go_simp; (try go_ints); (try simp only [IntWalk.iteOmega]); (try go_simp); try with_reducible rfl))); (intro S' hS'; simp only [Act.put, List.setIfInBounds_toArray, List.set_cons_zero, List.set_cons_succ] at hS'; subst hS'))
          -- 11 90:binOp
          (refine Lin.walk_pure ?_ (by kernel_rfl) (by kernel_rfl) (by rfl) ?_ ?_; rotate_left; (focus (intro w; (go_simp; (try go_ints); (try simp only [IntWalk.iteOmega]); (try go_simp); try with_reducible rfl))); (intro S' hS'; simp only [Act.put, List.setIfInBounds_toArray, List.set_cons_zero, List.set_cons_succ] at hS'; subst hS'))
          -- 12 91:move
          (refine Lin.walk_pure ?_ (by kernel_rfl) (by kernel_rfl) (by rfl) ?_ ?_; rotate_left; (focus (intro w; (go_simp; (try go_ints); (try simp only [IntWalk.iteOmega]); (try go_simp); try with_reducible rfl))); (intro S' hS'; simp only [Act.put, List.setIfInBounds_toArray, List.set_cons_zero, List.set_cons_succ] at hS'; subst hS'))
          -- 13 92:binOp
          (refine Lin.walk_pure ?_ (by kernel_rfl) (by kernel_rfl) (by rfl) ?_ ?_; rotate_left; (focus (intro w; (go_simp; (try go_ints); (try simp only [IntWalk.iteOmega]); (try go_simp); try with_reducible rfl))); (intro S' hS'; simp only [Act.put, List.setIfInBounds_toArray, List.set_cons_zero, List.set_cons_succ] at hS'; subst hS'))
          -- 14 93:binOp
          (refine Lin.walk_pure ?_ (by kernel_rfl) (by kernel_rfl) (by rfl) ?_ ?_; rotate_left; (focus (intro w; (go_simp; (try go_ints); (try simp only [IntWalk.iteOmega]); (try go_simp); try with_reducible rfl))); (intro S' hS'; simp only [Act.put, List.setIfInBounds_toArray, List.set_cons_zero, List.set_cons_succ] at hS'; subst hS'))
          -- 15 94:indexAddr
          (refine Lin.walk_pure ?_ (by kernel_rfl) (by kernel_rfl) (by rfl) ?_ ?_; rotate_left; (focus (intro w; (go_simp; (try go_ints); (try simp only [IntWalk.iteOmega]); (try go_simp); try with_reducible rfl))); (intro S' hS'; simp only [Act.put, List.setIfInBounds_toArray, List.set_cons_zero, List.set_cons_succ] at hS'; subst hS'))
          -- 16 -:store
          (refine Lin.walk_last [] undef (by kernel_rfl) rfl (by kernel_rfl) (fun _ => by rfl) ?_ ?_; (focus (intro f w1 hF hC hI; dsimp only at hC hI; clear hF; have hI : Row w1 (w.heap.size + 1 + 1) 0 (wcells64 wk) := hI; have hl := HL.out; have c1 := hI.free0 (i := k) (by omega); have c2 := hI.cell0 (i := k) (wcells64_get (by rw [wcells64_length] at hl; omega)); simp only [Lin.over_nil]; go_simp; refine ⟨rfl, Chgd.one _ _ _ _, ?_⟩; show Row _ _ 0 (wcells64 (sched ws (k + 1))); rw [sched_succ ws k hk16, ← HK.out, ← HXY.out.1, ← HXY.out.2.1, turns2, turns2, ← HXY.out.2.2.1, ← HXY.out.2.2.2.1, ← HXY.out.2.2.2.2.1, ← HXY.out.2.2.2.2.2, ← wcells64_set]; exact Row.set0 (i := k) (cs := wcells64 wk) hI (by omega) _)); (intro S' hS'; simp only [Act.put] at hS'; subst hS'))
          (refine Lin.walk_end0 rfl ?_; intro W' hC hI)
          have B8 : Row W' (w.heap.size + 1 + 1) 0 (wcells64 (sched ws (k + 1))) := hI
          replace C2 := C2.trans hC (fun _ _ h => h)
          clear hI hC w2 w3 w4 n4 vw
          go_wp2
          go_roundw
          case rel => exact ⟨k + 1, by omega, by omega, by go_num, B8, C2⟩
          case measure => simp [intOf]; omega
        · obtain rfl : k = 64 := by omega
          have C3 := C1'.trans C2 (fun j hj e => by omega)
          have B2'' := B2'.keep C2 (fun e => by omega)
          have B4'' := B4'.keep C2 (fun e => by omega)
          have hl8 : (wcells64 h).length = 8 := by rw [wcells64_length]; exact hh
          have Hl8 := Lib.hid hl8
          obtain ⟨ws2, hws2⟩ : ∃ ws2, ws2 = sched ws 64 := ⟨_, rfl⟩
          rw [← hws2] at B6''
          have hl2 : Hid ((wcells64 ws2).length = 64) := Lib.hid (by rw [hws2, wcells64_length, sched_length]; exact hl64.out)
          have HW2 := Lib.hid hws2
          obtain ⟨kv, hkv⟩ : ∃ kv, kv = (wcells64 kTab).toArray := ⟨_, rfl⟩
          have HKV := Lib.hid hkv
          clear hws2 B2' B4' C1' C2 hh hl8 hk16 hk hlt B6' hkv
          have hz4 := B2''.lt (by rw [Hl8.out]; omega)
          have hz5 := B4''.lt (by simp [wcells64, zero8])
          obtain ⟨w3, rfl⟩ : ∃ x : World, x = wr := ⟨_, rfl⟩
          obtain ⟨hvq, hhv2⟩ : ∃ hvq, hvq = (wcells64 h).toArray := ⟨_, rfl⟩
          have HV2 := Lib.hid hhv2
          clear hhv2
          have hz3 := C3.size
          go_wp2_with (first
            | (go_at_call 30; refine (ktab_any _).mono ?_; rintro e w4 ⟨rfl, c4⟩; rw [← HKV.out]; replace C3 := C3.trans c4 (fun _ _ h => h); replace B2'' := B2''.keep c4 (fun h => h); replace B4'' := B4''.keep c4 (fun h => h); replace B6'' := B6''.keep c4 (fun h => h); have hz34 := c4.size; clear c4)
            | (refine wpList_storeRow rfl 59 (.tmp 14) (.tmp 95) rfl w4.heap.size 0 _ (wcells64 kTab) rfl (by show Value.agg kv = _; rw [HKV.out]) (Row.new _ _ _) 64 size64v rfl rfl (wcells64_one _) ?_; intro w5 B14 _ _ c5; replace c5 := ((Chgd.refl (fun _ => False) w4).alloc _).trans c5 (fun j hj e => by omega); replace C3 := C3.trans c5 (fun _ _ h => h); replace B2'' := B2''.keep c5 (fun h => h); replace B4'' := B4''.keep c5 (fun h => h); replace B6'' := B6''.keep c5 (fun h => h); clear c5; have hz45 := B14.lt (by rw [wcells64_length]; decide))
            | (refine wpList_loadRow rfl 51 (.tmp 2) rfl w.heap.size 0 rfl (wcells64 h) B2'' _ Tryd.underlying51 rfl 8 size8v Hl8.out ?_; rw [← HV2.out])
            | (refine wpList_storeRow rfl 51 (.tmp 15) (.tmp 96) rfl w5.heap.size 0 _ (wcells64 h) rfl (by show Value.agg hvq = _; rw [HV2.out]) (Row.new _ _ _) 8 size8v rfl Hl8.out (wcells64_one h) ?_; intro w6 B15 _ _ c6; replace c6 := ((Chgd.refl (fun _ => False) w5).alloc _).trans c6 (fun j hj e => by omega); replace C3 := C3.trans c6 (fun _ _ h => h); replace B2'' := B2''.keep c6 (fun h => h); replace B4'' := B4''.keep c6 (fun h => h); replace B6'' := B6''.keep c6 (fun h => h); replace B14 := B14.keep c6 (fun h => h); clear c6))
          go_loopw [16] (fun i wx => ∃ k : Nat, ∃ v : List Word, k ≤ 64 ∧ i = .int .i64 k ∧ v = rounds h ws2 k ∧ v.length = 8 ∧ Row wx w5.heap.size 0 (wcells64 v) ∧ Chgd (fun j => j = w5.heap.size) w6 wx) (fun i _ => 64 - (intOf i).toNat)
          case atStart => exact ⟨0, h, Nat.zero_le _, rfl, rfl, by have := Hl8.out; rwa [wcells64_length] at this, B15, Chgd.refl _ _⟩
          case round =>
            obtain ⟨k, v, hk, rfl, hv', hvl, B15', C4⟩ := hrel
            by_cases hlt : k < 64
            ·
              obtain ⟨v0, hv0⟩ : ∃ t, t = wat v 0 := ⟨_, rfl⟩
              have c0 := B15'.cell0 (i := 0) (wcells64_get (by omega))
              rw [← hv0] at c0
              obtain ⟨v1, hv1⟩ : ∃ t, t = wat v 1 := ⟨_, rfl⟩
              have c1 := B15'.cell0 (i := 1) (wcells64_get (by omega))
              rw [← hv1] at c1
              obtain ⟨v2, hv2⟩ : ∃ t, t = wat v 2 := ⟨_, rfl⟩
              have c2 := B15'.cell0 (i := 2) (wcells64_get (by omega))
              rw [← hv2] at c2
              obtain ⟨v3, hv3⟩ : ∃ t, t = wat v 3 := ⟨_, rfl⟩
              have c3 := B15'.cell0 (i := 3) (wcells64_get (by omega))
              rw [← hv3] at c3
              obtain ⟨v4, hv4⟩ : ∃ t, t = wat v 4 := ⟨_, rfl⟩
              have c4 := B15'.cell0 (i := 4) (wcells64_get (by omega))
              rw [← hv4] at c4
              obtain ⟨v5, hv5⟩ : ∃ t, t = wat v 5 := ⟨_, rfl⟩
              have c5 := B15'.cell0 (i := 5) (wcells64_get (by omega))
              rw [← hv5] at c5
              obtain ⟨v6, hv6⟩ : ∃ t, t = wat v 6 := ⟨_, rfl⟩
              have c6 := B15'.cell0 (i := 6) (wcells64_get (by omega))
              rw [← hv6] at c6
              obtain ⟨v7, hv7⟩ : ∃ t, t = wat v 7 := ⟨_, rfl⟩
              have c7 := B15'.cell0 (i := 7) (wcells64_get (by omega))
              rw [← hv7] at c7
              obtain ⟨x1, hx1⟩ : ∃ t, t = v4 &&& v5 := ⟨_, rfl⟩
              obtain ⟨ne, hne⟩ : ∃ t, t = ~~~v4 := ⟨_, rfl⟩
              obtain ⟨x2, hx2⟩ : ∃ t, t = ne &&& v6 := ⟨_, rfl⟩
              obtain ⟨ch, hch⟩ : ∃ t, t = x1 ^^^ x2 := ⟨_, rfl⟩
              obtain ⟨y1, hy1⟩ : ∃ t, t = v0 &&& v1 := ⟨_, rfl⟩
              obtain ⟨y2, hy2⟩ : ∃ t, t = v0 &&& v2 := ⟨_, rfl⟩
              obtain ⟨y3, hy3⟩ : ∃ t, t = y1 ^^^ y2 := ⟨_, rfl⟩
              obtain ⟨y4, hy4⟩ : ∃ t, t = v1 &&& v2 := ⟨_, rfl⟩
              obtain ⟨mj, hmj⟩ : ∃ t, t = y3 ^^^ y4 := ⟨_, rfl⟩
              have f1 := v_and v4 v5
              have f2 := v_not v4
              have f3 := v_and ne v6
              have f4 := v_xor x1 x2
              have f5 := v_and v0 v1
              have f6 := v_and v0 v2
              have f7 := v_xor y1 y2
              have f8 := v_and v1 v2
              have f9 := v_xor y3 y4
              have f0 := v_wrap ne
              rw [← hx1] at f1
              rw [← hne] at f2
              rw [← hx2] at f3
              rw [← hch] at f4
              rw [← hy1] at f5
              rw [← hy2] at f6
              rw [← hy3] at f7
              rw [← hy4] at f8
              rw [← hmj] at f9
              have HF := Lib.hid (⟨f1, f2, f3, f4, f5, f6, f7, f8, f9, f0⟩ : _ ∧ _ ∧ _ ∧ _ ∧ _ ∧ _ ∧ _ ∧ _ ∧ _ ∧ _)
              have HV0 := Lib.hid (⟨hv0, hv1, hv2, hv3, hv4, hv5, hv6, hv7⟩ : _ ∧ _ ∧ _ ∧ _ ∧ _ ∧ _ ∧ _ ∧ _)
              have HCM := Lib.hid (⟨hx1, hne, hx2, hch, hy1, hy2, hy3, hy4, hmj⟩ : _ ∧ _ ∧ _ ∧ _ ∧ _ ∧ _ ∧ _ ∧ _ ∧ _)
              have HVL := Lib.hid (⟨hv', hvl⟩ : _ ∧ _)
              have B7 := Lib.hid B15'
              have B6x := Lib.hid (B6''.keep C4 (fun e => by omega))
              have B14x := Lib.hid (B14.keep C4 (fun e => by omega))
              clear f1 f2 f3 f4 f5 f6 f7 f8 f9 f0 hv0 hv1 hv2 hv3 hv4 hv5 hv6 hv7 hx1 hne hx2 hch hy1 hy2 hy3 hy4 hmj hv' hvl B15'
              go_upto_region 26 with (fail)
              obtain ⟨f1, f2, f3, f4, f5, f6, f7, f8, f9, f0⟩ := HF.out
              go_wp2_with fail
              clear f1 f2 f3 f4 f5 f6 f7 f8 f9 f0
              have a2 := s2
              have a3 := s3
              have a4 := s4
              have a5 := s5
              have n5 := m5
              have vw := v_wrap
              have vx := v_xor
              refine Lin.region_lin [0, 1, 0, 4, 0, 28, 60, 0, 188, 508, 1023, 0, 4095, 0, 8192, 24576, 65535, 0, 131072, 393216, 1048575, 2097151, 4194303] [] [] (fun _ => False) (fun _ w' => Row w' w5.heap.size 0 (wcells64 v) ∧ Row w' w4.heap.size 0 (wcells64 kTab) ∧ Row w' (w.heap.size + 1 + 1) 0 (wcells64 ws2)) _ (by kernel_rfl) rfl (by kernel_rfl) (⟨B7.out.drew, B14x.out.drew, B6x.out.drew⟩) ?_
              -- 0 130:indexAddr
              (refine Lin.walk_pure ?_ (by kernel_rfl) (by kernel_rfl) (by rfl) ?_ ?_; rotate_left; (focus (intro w; (go_simp; (try go_ints); (try simp only [IntWalk.iteOmega]); (try go_simp); try with_reducible rfl))); (intro S' hS'; simp only [Act.put, List.setIfInBounds_toArray, List.set_cons_zero, List.set_cons_succ] at hS'; subst hS'))
              -- 1 131:load
              (refine Lin.walk_read ?_ (by kernel_rfl) (by kernel_rfl) (by kernel_rfl) (by rfl) ?_ ?_; rotate_left; (focus (intro w1 hC hI; have d7 := hI.1.cell0 (i := 7) (wcells64_get (by have := HVL.out.2; omega)); rw [← HV0.out.2.2.2.2.2.2.2] at d7; have dk := hI.2.1.cell0 (i := k) (wcells64_get (by have : kTab.length = 64 := rfl; omega)); have dw := hI.2.2.cell0 (i := k) (wcells64_get (by have := hl2.out; rw [wcells64_length] at this; omega)); (go_simp; (try go_ints); (try simp only [IntWalk.iteOmega]); (try go_simp); try with_reducible rfl))); (intro S' hS'; simp only [Act.put, List.setIfInBounds_toArray, List.set_cons_zero, List.set_cons_succ] at hS'; subst hS'))
              -- 2 132:move
              (refine Lin.walk_pure ?_ (by kernel_rfl) (by kernel_rfl) (by rfl) ?_ ?_; rotate_left; (focus (intro w; (go_simp; (try go_ints); (try simp only [IntWalk.iteOmega]); (try go_simp); try with_reducible rfl))); (intro S' hS'; simp only [Act.put, List.setIfInBounds_toArray, List.set_cons_zero, List.set_cons_succ] at hS'; subst hS'))
              -- 3 133:call!
              (refine Lin.walk_call (.int .u64 (wn (rr v4 6))) (by kernel_rfl) (by kernel_rfl) (by kernel_rfl) (by rfl) ?_ ?_; (focus (intro w1 hC hI; dsimp only at hC hI; go_simp; exact Calls.mono (turn_i v4 6 _ rfl (by decide) _) (by rintro e' w2 ⟨rfl, rfl⟩; exact ⟨_, rfl, rfl, Chgd.refl _ _, hI⟩))); (intro S' hS'; simp only [Act.put, List.setIfInBounds_toArray, List.set_cons_zero, List.set_cons_succ] at hS'; subst hS'))
              -- 4 134:move
              (refine Lin.walk_pure ?_ (by kernel_rfl) (by kernel_rfl) (by rfl) ?_ ?_; rotate_left; (focus (intro w; (go_simp; (try go_ints); (try simp only [IntWalk.iteOmega]); (try go_simp); try with_reducible rfl))); (intro S' hS'; simp only [Act.put, List.setIfInBounds_toArray, List.set_cons_zero, List.set_cons_succ] at hS'; subst hS'))
              -- 5 135:call!
              (refine Lin.walk_call (.int .u64 (wn (rr v4 11))) (by kernel_rfl) (by kernel_rfl) (by kernel_rfl) (by rfl) ?_ ?_; (focus (intro w1 hC hI; dsimp only at hC hI; go_simp; exact Calls.mono (turn_i v4 11 _ rfl (by decide) _) (by rintro e' w2 ⟨rfl, rfl⟩; exact ⟨_, rfl, rfl, Chgd.refl _ _, hI⟩))); (intro S' hS'; simp only [Act.put, List.setIfInBounds_toArray, List.set_cons_zero, List.set_cons_succ] at hS'; subst hS'))
              -- 6 136:binOp
              (refine Lin.walk_pure ?_ (by kernel_rfl) (by kernel_rfl) (by rfl) ?_ ?_; rotate_left; (focus (intro w; (go_simp; (try go_ints); (try simp only [IntWalk.iteOmega]); (try go_simp); try with_reducible rfl))); (intro S' hS'; simp only [Act.put, List.setIfInBounds_toArray, List.set_cons_zero, List.set_cons_succ] at hS'; subst hS'))
              -- 7 137:move
              (refine Lin.walk_pure ?_ (by kernel_rfl) (by kernel_rfl) (by rfl) ?_ ?_; rotate_left; (focus (intro w; (go_simp; (try go_ints); (try simp only [IntWalk.iteOmega]); (try go_simp); try with_reducible rfl))); (intro S' hS'; simp only [Act.put, List.setIfInBounds_toArray, List.set_cons_zero, List.set_cons_succ] at hS'; subst hS'))
              -- 8 138:call!
              (refine Lin.walk_call (.int .u64 (wn (rr v4 25))) (by kernel_rfl) (by kernel_rfl) (by kernel_rfl) (by rfl) ?_ ?_; (focus (intro w1 hC hI; dsimp only at hC hI; go_simp; exact Calls.mono (turn_i v4 25 _ rfl (by decide) _) (by rintro e' w2 ⟨rfl, rfl⟩; exact ⟨_, rfl, rfl, Chgd.refl _ _, hI⟩))); (intro S' hS'; simp only [Act.put, List.setIfInBounds_toArray, List.set_cons_zero, List.set_cons_succ] at hS'; subst hS'))
              -- 9 139:binOp
              (refine Lin.walk_pure ?_ (by kernel_rfl) (by kernel_rfl) (by rfl) ?_ ?_; rotate_left; (focus (intro w; (go_simp; (try go_ints); (try simp only [IntWalk.iteOmega]); (try go_simp); try with_reducible rfl))); (intro S' hS'; simp only [Act.put, List.setIfInBounds_toArray, List.set_cons_zero, List.set_cons_succ] at hS'; subst hS'))
              -- 10 140:binOp
              (refine Lin.walk_pure ?_ (by kernel_rfl) (by kernel_rfl) (by rfl) ?_ ?_; rotate_left; (focus (intro w; (go_simp; (try go_ints); (try simp only [IntWalk.iteOmega]); (try go_simp); try with_reducible rfl))); (intro S' hS'; simp only [Act.put, List.setIfInBounds_toArray, List.set_cons_zero, List.set_cons_succ] at hS'; subst hS'))
              -- 11 141:move
              (refine Lin.walk_pure ?_ (by kernel_rfl) (by kernel_rfl) (by rfl) ?_ ?_; rotate_left; (focus (intro w; (go_simp; (try go_ints); (try simp only [IntWalk.iteOmega]); (try go_simp); try with_reducible rfl))); (intro S' hS'; simp only [Act.put, List.setIfInBounds_toArray, List.set_cons_zero, List.set_cons_succ] at hS'; subst hS'))
              -- 12 142:binOp
              (refine Lin.walk_pure ?_ (by kernel_rfl) (by kernel_rfl) (by rfl) ?_ ?_; rotate_left; (focus (intro w; (go_simp; (try go_ints); (try simp only [IntWalk.iteOmega]); (try go_simp); try with_reducible rfl))); (intro S' hS'; simp only [Act.put, List.setIfInBounds_toArray, List.set_cons_zero, List.set_cons_succ] at hS'; subst hS'))
              -- 13 143:move
              (refine Lin.walk_pure ?_ (by kernel_rfl) (by kernel_rfl) (by rfl) ?_ ?_; rotate_left; (focus (intro w; (go_simp; (try go_ints); (try simp only [IntWalk.iteOmega]); (try go_simp); try with_reducible rfl))); (intro S' hS'; simp only [Act.put, List.setIfInBounds_toArray, List.set_cons_zero, List.set_cons_succ] at hS'; subst hS'))
              -- 14 144:indexAddr
              (refine Lin.walk_pure ?_ (by kernel_rfl) (by kernel_rfl) (by rfl) ?_ ?_; rotate_left; (focus (intro w; (go_simp; (try go_ints); (try simp only [IntWalk.iteOmega]); (try go_simp); try with_reducible rfl))); (intro S' hS'; simp only [Act.put, List.setIfInBounds_toArray, List.set_cons_zero, List.set_cons_succ] at hS'; subst hS'))
              -- 15 145:load
              (refine Lin.walk_read ?_ (by kernel_rfl) (by kernel_rfl) (by kernel_rfl) (by rfl) ?_ ?_; rotate_left; (focus (intro w1 hC hI; have d7 := hI.1.cell0 (i := 7) (wcells64_get (by have := HVL.out.2; omega)); rw [← HV0.out.2.2.2.2.2.2.2] at d7; have dk := hI.2.1.cell0 (i := k) (wcells64_get (by have : kTab.length = 64 := rfl; omega)); have dw := hI.2.2.cell0 (i := k) (wcells64_get (by have := hl2.out; rw [wcells64_length] at this; omega)); (go_simp; (try go_ints); (try simp only [IntWalk.iteOmega]); (try go_simp); try with_reducible rfl))); (intro S' hS'; simp only [Act.put, List.setIfInBounds_toArray, List.set_cons_zero, List.set_cons_succ] at hS'; subst hS'))
              -- 16 146:binOp
              (refine Lin.walk_pure ?_ (by kernel_rfl) (by kernel_rfl) (by rfl) ?_ ?_; rotate_left; (focus (intro w; (go_simp; (try go_ints); (try simp only [IntWalk.iteOmega]); (try go_simp); try with_reducible rfl))); (intro S' hS'; simp only [Act.put, List.setIfInBounds_toArray, List.set_cons_zero, List.set_cons_succ] at hS'; subst hS'))
              -- 17 147:move
              (refine Lin.walk_pure ?_ (by kernel_rfl) (by kernel_rfl) (by rfl) ?_ ?_; rotate_left; (focus (intro w; (go_simp; (try go_ints); (try simp only [IntWalk.iteOmega]); (try go_simp); try with_reducible rfl))); (intro S' hS'; simp only [Act.put, List.setIfInBounds_toArray, List.set_cons_zero, List.set_cons_succ] at hS'; subst hS'))
              -- 18 148:indexAddr
              (refine Lin.walk_pure ?_ (by kernel_rfl) (by kernel_rfl) (by rfl) ?_ ?_; rotate_left; (focus (intro w; (go_simp; (try go_ints); (try simp only [IntWalk.iteOmega]); (try go_simp); try with_reducible rfl))); (intro S' hS'; simp only [Act.put, List.setIfInBounds_toArray, List.set_cons_zero, List.set_cons_succ] at hS'; subst hS'))
              -- 19 149:load
              (refine Lin.walk_read ?_ (by kernel_rfl) (by kernel_rfl) (by kernel_rfl) (by rfl) ?_ ?_; rotate_left; (focus (intro w1 hC hI; have d7 := hI.1.cell0 (i := 7) (wcells64_get (by have := HVL.out.2; omega)); rw [← HV0.out.2.2.2.2.2.2.2] at d7; have dk := hI.2.1.cell0 (i := k) (wcells64_get (by have : kTab.length = 64 := rfl; omega)); have dw := hI.2.2.cell0 (i := k) (wcells64_get (by have := hl2.out; rw [wcells64_length] at this; omega)); (go_simp; (try go_ints); (try simp only [IntWalk.iteOmega]); (try go_simp); try with_reducible rfl))); (intro S' hS'; simp only [Act.put, List.setIfInBounds_toArray, List.set_cons_zero, List.set_cons_succ] at hS'; subst hS'))
              -- 20 150:binOp
              (refine Lin.walk_pure ?_ (by kernel_rfl) (by kernel_rfl) (by rfl) ?_ ?_; rotate_left; (focus (intro w; (go_simp; (try go_ints); (try simp only [IntWalk.iteOmega]); (try go_simp); try with_reducible rfl))); (intro S' hS'; simp only [Act.put, List.setIfInBounds_toArray, List.set_cons_zero, List.set_cons_succ] at hS'; subst hS'))
              -- 21 151:binOp
              (refine Lin.walk_pure ?_ (by kernel_rfl) (by kernel_rfl) (by rfl) ?_ ?_; rotate_left; (focus (intro w; (go_simp; (try go_ints); (try simp only [IntWalk.iteOmega]); (try go_simp); try with_reducible rfl))); (intro S' hS'; simp only [Act.put, List.setIfInBounds_toArray, List.set_cons_zero, List.set_cons_succ] at hS'; subst hS'))
              -- 22 21:assign
              (refine Lin.walk_pure ?_ (by kernel_rfl) (by kernel_rfl) (by rfl) ?_ ?_; rotate_left; (focus (intro w; (go_simp; (try go_ints); (try simp only [IntWalk.iteOmega]); (try go_simp); try with_reducible rfl))); (intro S' hS'; simp only [Act.put, List.setIfInBounds_toArray, List.set_cons_zero, List.set_cons_succ] at hS'; subst hS'))
              (refine Lin.walk_end0 rfl ?_; intro W' hC hI)
              replace C4 := C4.trans hC (fun _ _ h => h.elim)
              have B7x := hI.1
              clear hI hC a2 a3 a4 a5 n5 vw vx c0 c1 c2 c3 c4 c5 c6 c7
              obtain ⟨t1, ht1⟩ : ∃ t, t = v7 + (rr v4 6 ^^^ rr v4 11 ^^^ rr v4 25) + ch + wat kTab k + wat ws2 k := ⟨_, rfl⟩
              rw [← ht1]
              have HT1 := Lib.hid ht1
              clear ht1
              go_upto_region 29 with (fail)
              have a2 := s2
              have n2 := m2
              have vw := v_wrap
              have vx := v_xor
              refine Lin.region_seq [0, 1, 0, 7, 15, 0, 47, 127, 0, 511, 1023, 2047] [] [] (fun _ => False) (fun _ w' => Row w' w5.heap.size 0 (wcells64 v)) _ rfl (by kernel_rfl) (B7x) ?_
              -- 0 152:move
              (refine Lin.walk_pure ?_ (by kernel_rfl) (by kernel_rfl) (by rfl) ?_ ?_; rotate_left; (focus (intro w; (go_simp; (try go_ints); (try simp only [IntWalk.iteOmega]); (try go_simp); try with_reducible rfl))); (intro S' hS'; simp only [Act.put, List.setIfInBounds_toArray, List.set_cons_zero, List.set_cons_succ] at hS'; subst hS'))
              -- 1 153:call!
              (refine Lin.walk_call (.int .u64 (wn (rr v0 2))) (by kernel_rfl) (by kernel_rfl) (by kernel_rfl) (by rfl) ?_ ?_; (focus (intro w1 hC hI; dsimp only at hC hI; go_simp; exact Calls.mono (turn_i v0 2 _ rfl (by decide) _) (by rintro e' w2 ⟨rfl, rfl⟩; exact ⟨_, rfl, rfl, Chgd.refl _ _, hI⟩))); (intro S' hS'; simp only [Act.put, List.setIfInBounds_toArray, List.set_cons_zero, List.set_cons_succ] at hS'; subst hS'))
              -- 2 154:move
              (refine Lin.walk_pure ?_ (by kernel_rfl) (by kernel_rfl) (by rfl) ?_ ?_; rotate_left; (focus (intro w; (go_simp; (try go_ints); (try simp only [IntWalk.iteOmega]); (try go_simp); try with_reducible rfl))); (intro S' hS'; simp only [Act.put, List.setIfInBounds_toArray, List.set_cons_zero, List.set_cons_succ] at hS'; subst hS'))
              -- 3 155:call!
              (refine Lin.walk_call (.int .u64 (wn (rr v0 13))) (by kernel_rfl) (by kernel_rfl) (by kernel_rfl) (by rfl) ?_ ?_; (focus (intro w1 hC hI; dsimp only at hC hI; go_simp; exact Calls.mono (turn_i v0 13 _ rfl (by decide) _) (by rintro e' w2 ⟨rfl, rfl⟩; exact ⟨_, rfl, rfl, Chgd.refl _ _, hI⟩))); (intro S' hS'; simp only [Act.put, List.setIfInBounds_toArray, List.set_cons_zero, List.set_cons_succ] at hS'; subst hS'))
              -- 4 156:binOp
              (refine Lin.walk_pure ?_ (by kernel_rfl) (by kernel_rfl) (by rfl) ?_ ?_; rotate_left; (focus (intro w; (go_simp; (try go_ints); (try simp only [IntWalk.iteOmega]); (try go_simp); try with_reducible rfl))); (intro S' hS'; simp only [Act.put, List.setIfInBounds_toArray, List.set_cons_zero, List.set_cons_succ] at hS'; subst hS'))
              -- 5 157:move
              (refine Lin.walk_pure ?_ (by kernel_rfl) (by kernel_rfl) (by rfl) ?_ ?_; rotate_left; (focus (intro w; (go_simp; (try go_ints); (try simp only [IntWalk.iteOmega]); (try go_simp); try with_reducible rfl))); (intro S' hS'; simp only [Act.put, List.setIfInBounds_toArray, List.set_cons_zero, List.set_cons_succ] at hS'; subst hS'))
              -- 6 158:call!
              (refine Lin.walk_call (.int .u64 (wn (rr v0 22))) (by kernel_rfl) (by kernel_rfl) (by kernel_rfl) (by rfl) ?_ ?_; (focus (intro w1 hC hI; dsimp only at hC hI; go_simp; exact Calls.mono (turn_i v0 22 _ rfl (by decide) _) (by rintro e' w2 ⟨rfl, rfl⟩; exact ⟨_, rfl, rfl, Chgd.refl _ _, hI⟩))); (intro S' hS'; simp only [Act.put, List.setIfInBounds_toArray, List.set_cons_zero, List.set_cons_succ] at hS'; subst hS'))
              -- 7 159:binOp
              (refine Lin.walk_pure ?_ (by kernel_rfl) (by kernel_rfl) (by rfl) ?_ ?_; rotate_left; (focus (intro w; (go_simp; (try go_ints); (try simp only [IntWalk.iteOmega]); (try go_simp); try with_reducible rfl))); (intro S' hS'; simp only [Act.put, List.setIfInBounds_toArray, List.set_cons_zero, List.set_cons_succ] at hS'; subst hS'))
              -- 8 160:move
              (refine Lin.walk_pure ?_ (by kernel_rfl) (by kernel_rfl) (by rfl) ?_ ?_; rotate_left; (focus (intro w; (go_simp; (try go_ints); (try simp only [IntWalk.iteOmega]); (try go_simp); try with_reducible rfl))); (intro S' hS'; simp only [Act.put, List.setIfInBounds_toArray, List.set_cons_zero, List.set_cons_succ] at hS'; subst hS'))
              -- 9 161:binOp
              (refine Lin.walk_pure ?_ (by kernel_rfl) (by kernel_rfl) (by rfl) ?_ ?_; rotate_left; (focus (intro w; (go_simp; (try go_ints); (try simp only [IntWalk.iteOmega]); (try go_simp); try with_reducible rfl))); (intro S' hS'; simp only [Act.put, List.setIfInBounds_toArray, List.set_cons_zero, List.set_cons_succ] at hS'; subst hS'))
              -- 10 162:binOp
              (refine Lin.walk_pure ?_ (by kernel_rfl) (by kernel_rfl) (by rfl) ?_ ?_; rotate_left; (focus (intro w; (go_simp; (try go_ints); (try simp only [IntWalk.iteOmega]); (try go_simp); try with_reducible rfl))); (intro S' hS'; simp only [Act.put, List.setIfInBounds_toArray, List.set_cons_zero, List.set_cons_succ] at hS'; subst hS'))
              -- 11 22:assign
              (refine Lin.walk_pure ?_ (by kernel_rfl) (by kernel_rfl) (by rfl) ?_ ?_; rotate_left; (focus (intro w; (go_simp; (try go_ints); (try simp only [IntWalk.iteOmega]); (try go_simp); try with_reducible rfl))); (intro S' hS'; simp only [Act.put, List.setIfInBounds_toArray, List.set_cons_zero, List.set_cons_succ] at hS'; subst hS'))
              (refine Lin.walk_end0 rfl ?_; intro W' hC hI)
              replace C4 := C4.trans hC (fun _ _ h => h.elim)
              clear B7x
              have B7x : Row W' w5.heap.size 0 (wcells64 v) := hI
              clear hI hC a2 n2 vw vx
              obtain ⟨t2, ht2⟩ : ∃ t, t = (rr v0 2 ^^^ rr v0 13 ^^^ rr v0 22) + mj := ⟨_, rfl⟩
              rw [← ht2]
              have HT2 := Lib.hid ht2
              clear ht2
              go_upto_region 30 with (fail)
              have a2 := s2
              have n2 := m2
              have vw := v_wrap
              refine Lin.region_seq [0, 0, 3, 7, 0, 16, 0, 64, 0, 256, 0, 1024, 0, 7168, 15360, 0, 32768, 0, 131072, 0, 524288, 2097151, 4194303] [] [22] (fun j => j = w5.heap.size) (fun e w' => Row w' w5.heap.size 0 (wcells64 (two v [t1 + t2, v0, v1, v2, v3 + t1, v4, v5, v6] e))) _ rfl (by kernel_rfl) (B7x) ?_
              -- 0 163:move
              (refine Lin.walk_pure ?_ (by kernel_rfl) (by kernel_rfl) (by rfl) ?_ ?_; rotate_left; (focus (intro w; (go_simp; (try go_ints); (try simp only [IntWalk.iteOmega]); (try go_simp); try with_reducible rfl))); (intro S' hS'; simp only [Act.put, List.setIfInBounds_toArray, List.set_cons_zero, List.set_cons_succ] at hS'; subst hS'))
              -- 1 164:move
              (refine Lin.walk_pure ?_ (by kernel_rfl) (by kernel_rfl) (by rfl) ?_ ?_; rotate_left; (focus (intro w; (go_simp; (try go_ints); (try simp only [IntWalk.iteOmega]); (try go_simp); try with_reducible rfl))); (intro S' hS'; simp only [Act.put, List.setIfInBounds_toArray, List.set_cons_zero, List.set_cons_succ] at hS'; subst hS'))
              -- 2 165:binOp
              (refine Lin.walk_pure ?_ (by kernel_rfl) (by kernel_rfl) (by rfl) ?_ ?_; rotate_left; (focus (intro w; (go_simp; (try go_ints); (try simp only [IntWalk.iteOmega]); (try go_simp); try with_reducible rfl))); (intro S' hS'; simp only [Act.put, List.setIfInBounds_toArray, List.set_cons_zero, List.set_cons_succ] at hS'; subst hS'))
              -- 3 166:binOp
              (refine Lin.walk_pure ?_ (by kernel_rfl) (by kernel_rfl) (by rfl) ?_ ?_; rotate_left; (focus (intro w; (go_simp; (try go_ints); (try simp only [IntWalk.iteOmega]); (try go_simp); try with_reducible rfl))); (intro S' hS'; simp only [Act.put, List.setIfInBounds_toArray, List.set_cons_zero, List.set_cons_succ] at hS'; subst hS'))
              -- 4 167:indexAddr
              (refine Lin.walk_pure ?_ (by kernel_rfl) (by kernel_rfl) (by rfl) ?_ ?_; rotate_left; (focus (intro w; (go_simp; (try go_ints); (try simp only [IntWalk.iteOmega]); (try go_simp); try with_reducible rfl))); (intro S' hS'; simp only [Act.put, List.setIfInBounds_toArray, List.set_cons_zero, List.set_cons_succ] at hS'; subst hS'))
              -- 5 168:load
              (refine Lin.walk_read ?_ (by kernel_rfl) (by kernel_rfl) (by kernel_rfl) (by rfl) ?_ ?_; rotate_left; (focus (intro w1 hC hI; have hI : Row w1 w5.heap.size 0 (wcells64 v) := hI; have d0 := hI.cell0 (i := 0) (wcells64_get (by have := HVL.out.2; omega)); rw [← HV0.out.1] at d0; have d1 := hI.cell0 (i := 1) (wcells64_get (by have := HVL.out.2; omega)); rw [← HV0.out.2.1] at d1; have d2 := hI.cell0 (i := 2) (wcells64_get (by have := HVL.out.2; omega)); rw [← HV0.out.2.2.1] at d2; have d3 := hI.cell0 (i := 3) (wcells64_get (by have := HVL.out.2; omega)); rw [← HV0.out.2.2.2.1] at d3; have d4 := hI.cell0 (i := 4) (wcells64_get (by have := HVL.out.2; omega)); rw [← HV0.out.2.2.2.2.1] at d4; have d5 := hI.cell0 (i := 5) (wcells64_get (by have := HVL.out.2; omega)); rw [← HV0.out.2.2.2.2.2.1] at d5; have d6 := hI.cell0 (i := 6) (wcells64_get (by have := HVL.out.2; omega)); rw [← HV0.out.2.2.2.2.2.2.1] at d6; (go_simp; (try go_ints); (try simp only [IntWalk.iteOmega]); (try go_simp); try with_reducible rfl))); (intro S' hS'; simp only [Act.put, List.setIfInBounds_toArray, List.set_cons_zero, List.set_cons_succ] at hS'; subst hS'))
              -- 6 169:indexAddr
              (refine Lin.walk_pure ?_ (by kernel_rfl) (by kernel_rfl) (by rfl) ?_ ?_; rotate_left; (focus (intro w; (go_simp; (try go_ints); (try simp only [IntWalk.iteOmega]); (try go_simp); try with_reducible rfl))); (intro S' hS'; simp only [Act.put, List.setIfInBounds_toArray, List.set_cons_zero, List.set_cons_succ] at hS'; subst hS'))
              -- 7 170:load
              (refine Lin.walk_read ?_ (by kernel_rfl) (by kernel_rfl) (by kernel_rfl) (by rfl) ?_ ?_; rotate_left; (focus (intro w1 hC hI; have hI : Row w1 w5.heap.size 0 (wcells64 v) := hI; have d0 := hI.cell0 (i := 0) (wcells64_get (by have := HVL.out.2; omega)); rw [← HV0.out.1] at d0; have d1 := hI.cell0 (i := 1) (wcells64_get (by have := HVL.out.2; omega)); rw [← HV0.out.2.1] at d1; have d2 := hI.cell0 (i := 2) (wcells64_get (by have := HVL.out.2; omega)); rw [← HV0.out.2.2.1] at d2; have d3 := hI.cell0 (i := 3) (wcells64_get (by have := HVL.out.2; omega)); rw [← HV0.out.2.2.2.1] at d3; have d4 := hI.cell0 (i := 4) (wcells64_get (by have := HVL.out.2; omega)); rw [← HV0.out.2.2.2.2.1] at d4; have d5 := hI.cell0 (i := 5) (wcells64_get (by have := HVL.out.2; omega)); rw [← HV0.out.2.2.2.2.2.1] at d5; have d6 := hI.cell0 (i := 6) (wcells64_get (by have := HVL.out.2; omega)); rw [← HV0.out.2.2.2.2.2.2.1] at d6; (go_simp; (try go_ints); (try simp only [IntWalk.iteOmega]); (try go_simp); try with_reducible rfl))); (intro S' hS'; simp only [Act.put, List.setIfInBounds_toArray, List.set_cons_zero, List.set_cons_succ] at hS'; subst hS'))
              -- 8 171:indexAddr
              (refine Lin.walk_pure ?_ (by kernel_rfl) (by kernel_rfl) (by rfl) ?_ ?_; rotate_left; (focus (intro w; (go_simp; (try go_ints); (try simp only [IntWalk.iteOmega]); (try go_simp); try with_reducible rfl))); (intro S' hS'; simp only [Act.put, List.setIfInBounds_toArray, List.set_cons_zero, List.set_cons_succ] at hS'; subst hS'))
              -- 9 172:load
              (refine Lin.walk_read ?_ (by kernel_rfl) (by kernel_rfl) (by kernel_rfl) (by rfl) ?_ ?_; rotate_left; (focus (intro w1 hC hI; have hI : Row w1 w5.heap.size 0 (wcells64 v) := hI; have d0 := hI.cell0 (i := 0) (wcells64_get (by have := HVL.out.2; omega)); rw [← HV0.out.1] at d0; have d1 := hI.cell0 (i := 1) (wcells64_get (by have := HVL.out.2; omega)); rw [← HV0.out.2.1] at d1; have d2 := hI.cell0 (i := 2) (wcells64_get (by have := HVL.out.2; omega)); rw [← HV0.out.2.2.1] at d2; have d3 := hI.cell0 (i := 3) (wcells64_get (by have := HVL.out.2; omega)); rw [← HV0.out.2.2.2.1] at d3; have d4 := hI.cell0 (i := 4) (wcells64_get (by have := HVL.out.2; omega)); rw [← HV0.out.2.2.2.2.1] at d4; have d5 := hI.cell0 (i := 5) (wcells64_get (by have := HVL.out.2; omega)); rw [← HV0.out.2.2.2.2.2.1] at d5; have d6 := hI.cell0 (i := 6) (wcells64_get (by have := HVL.out.2; omega)); rw [← HV0.out.2.2.2.2.2.2.1] at d6; (go_simp; (try go_ints); (try simp only [IntWalk.iteOmega]); (try go_simp); try with_reducible rfl))); (intro S' hS'; simp only [Act.put, List.setIfInBounds_toArray, List.set_cons_zero, List.set_cons_succ] at hS'; subst hS'))
              -- 10 173:indexAddr
              (refine Lin.walk_pure ?_ (by kernel_rfl) (by kernel_rfl) (by rfl) ?_ ?_; rotate_left; (focus (intro w; (go_simp; (try go_ints); (try simp only [IntWalk.iteOmega]); (try go_simp); try with_reducible rfl))); (intro S' hS'; simp only [Act.put, List.setIfInBounds_toArray, List.set_cons_zero, List.set_cons_succ] at hS'; subst hS'))
              -- 11 174:load
              (refine Lin.walk_read ?_ (by kernel_rfl) (by kernel_rfl) (by kernel_rfl) (by rfl) ?_ ?_; rotate_left; (focus (intro w1 hC hI; have hI : Row w1 w5.heap.size 0 (wcells64 v) := hI; have d0 := hI.cell0 (i := 0) (wcells64_get (by have := HVL.out.2; omega)); rw [← HV0.out.1] at d0; have d1 := hI.cell0 (i := 1) (wcells64_get (by have := HVL.out.2; omega)); rw [← HV0.out.2.1] at d1; have d2 := hI.cell0 (i := 2) (wcells64_get (by have := HVL.out.2; omega)); rw [← HV0.out.2.2.1] at d2; have d3 := hI.cell0 (i := 3) (wcells64_get (by have := HVL.out.2; omega)); rw [← HV0.out.2.2.2.1] at d3; have d4 := hI.cell0 (i := 4) (wcells64_get (by have := HVL.out.2; omega)); rw [← HV0.out.2.2.2.2.1] at d4; have d5 := hI.cell0 (i := 5) (wcells64_get (by have := HVL.out.2; omega)); rw [← HV0.out.2.2.2.2.2.1] at d5; have d6 := hI.cell0 (i := 6) (wcells64_get (by have := HVL.out.2; omega)); rw [← HV0.out.2.2.2.2.2.2.1] at d6; (go_simp; (try go_ints); (try simp only [IntWalk.iteOmega]); (try go_simp); try with_reducible rfl))); (intro S' hS'; simp only [Act.put, List.setIfInBounds_toArray, List.set_cons_zero, List.set_cons_succ] at hS'; subst hS'))
              -- 12 175:move
              (refine Lin.walk_pure ?_ (by kernel_rfl) (by kernel_rfl) (by rfl) ?_ ?_; rotate_left; (focus (intro w; (go_simp; (try go_ints); (try simp only [IntWalk.iteOmega]); (try go_simp); try with_reducible rfl))); (intro S' hS'; simp only [Act.put, List.setIfInBounds_toArray, List.set_cons_zero, List.set_cons_succ] at hS'; subst hS'))
              -- 13 176:binOp
              (refine Lin.walk_pure ?_ (by kernel_rfl) (by kernel_rfl) (by rfl) ?_ ?_; rotate_left; (focus (intro w; (go_simp; (try go_ints); (try simp only [IntWalk.iteOmega]); (try go_simp); try with_reducible rfl))); (intro S' hS'; simp only [Act.put, List.setIfInBounds_toArray, List.set_cons_zero, List.set_cons_succ] at hS'; subst hS'))
              -- 14 177:binOp
              (refine Lin.walk_pure ?_ (by kernel_rfl) (by kernel_rfl) (by rfl) ?_ ?_; rotate_left; (focus (intro w; (go_simp; (try go_ints); (try simp only [IntWalk.iteOmega]); (try go_simp); try with_reducible rfl))); (intro S' hS'; simp only [Act.put, List.setIfInBounds_toArray, List.set_cons_zero, List.set_cons_succ] at hS'; subst hS'))
              -- 15 178:indexAddr
              (refine Lin.walk_pure ?_ (by kernel_rfl) (by kernel_rfl) (by rfl) ?_ ?_; rotate_left; (focus (intro w; (go_simp; (try go_ints); (try simp only [IntWalk.iteOmega]); (try go_simp); try with_reducible rfl))); (intro S' hS'; simp only [Act.put, List.setIfInBounds_toArray, List.set_cons_zero, List.set_cons_succ] at hS'; subst hS'))
              -- 16 179:load
              (refine Lin.walk_read ?_ (by kernel_rfl) (by kernel_rfl) (by kernel_rfl) (by rfl) ?_ ?_; rotate_left; (focus (intro w1 hC hI; have hI : Row w1 w5.heap.size 0 (wcells64 v) := hI; have d0 := hI.cell0 (i := 0) (wcells64_get (by have := HVL.out.2; omega)); rw [← HV0.out.1] at d0; have d1 := hI.cell0 (i := 1) (wcells64_get (by have := HVL.out.2; omega)); rw [← HV0.out.2.1] at d1; have d2 := hI.cell0 (i := 2) (wcells64_get (by have := HVL.out.2; omega)); rw [← HV0.out.2.2.1] at d2; have d3 := hI.cell0 (i := 3) (wcells64_get (by have := HVL.out.2; omega)); rw [← HV0.out.2.2.2.1] at d3; have d4 := hI.cell0 (i := 4) (wcells64_get (by have := HVL.out.2; omega)); rw [← HV0.out.2.2.2.2.1] at d4; have d5 := hI.cell0 (i := 5) (wcells64_get (by have := HVL.out.2; omega)); rw [← HV0.out.2.2.2.2.2.1] at d5; have d6 := hI.cell0 (i := 6) (wcells64_get (by have := HVL.out.2; omega)); rw [← HV0.out.2.2.2.2.2.2.1] at d6; (go_simp; (try go_ints); (try simp only [IntWalk.iteOmega]); (try go_simp); try with_reducible rfl))); (intro S' hS'; simp only [Act.put, List.setIfInBounds_toArray, List.set_cons_zero, List.set_cons_succ] at hS'; subst hS'))
              -- 17 180:indexAddr
              (refine Lin.walk_pure ?_ (by kernel_rfl) (by kernel_rfl) (by rfl) ?_ ?_; rotate_left; (focus (intro w; (go_simp; (try go_ints); (try simp only [IntWalk.iteOmega]); (try go_simp); try with_reducible rfl))); (intro S' hS'; simp only [Act.put, List.setIfInBounds_toArray, List.set_cons_zero, List.set_cons_succ] at hS'; subst hS'))
              -- 18 181:load
              (refine Lin.walk_read ?_ (by kernel_rfl) (by kernel_rfl) (by kernel_rfl) (by rfl) ?_ ?_; rotate_left; (focus (intro w1 hC hI; have hI : Row w1 w5.heap.size 0 (wcells64 v) := hI; have d0 := hI.cell0 (i := 0) (wcells64_get (by have := HVL.out.2; omega)); rw [← HV0.out.1] at d0; have d1 := hI.cell0 (i := 1) (wcells64_get (by have := HVL.out.2; omega)); rw [← HV0.out.2.1] at d1; have d2 := hI.cell0 (i := 2) (wcells64_get (by have := HVL.out.2; omega)); rw [← HV0.out.2.2.1] at d2; have d3 := hI.cell0 (i := 3) (wcells64_get (by have := HVL.out.2; omega)); rw [← HV0.out.2.2.2.1] at d3; have d4 := hI.cell0 (i := 4) (wcells64_get (by have := HVL.out.2; omega)); rw [← HV0.out.2.2.2.2.1] at d4; have d5 := hI.cell0 (i := 5) (wcells64_get (by have := HVL.out.2; omega)); rw [← HV0.out.2.2.2.2.2.1] at d5; have d6 := hI.cell0 (i := 6) (wcells64_get (by have := HVL.out.2; omega)); rw [← HV0.out.2.2.2.2.2.2.1] at d6; (go_simp; (try go_ints); (try simp only [IntWalk.iteOmega]); (try go_simp); try with_reducible rfl))); (intro S' hS'; simp only [Act.put, List.setIfInBounds_toArray, List.set_cons_zero, List.set_cons_succ] at hS'; subst hS'))
              -- 19 182:indexAddr
              (refine Lin.walk_pure ?_ (by kernel_rfl) (by kernel_rfl) (by rfl) ?_ ?_; rotate_left; (focus (intro w; (go_simp; (try go_ints); (try simp only [IntWalk.iteOmega]); (try go_simp); try with_reducible rfl))); (intro S' hS'; simp only [Act.put, List.setIfInBounds_toArray, List.set_cons_zero, List.set_cons_succ] at hS'; subst hS'))
              -- 20 183:load
              (refine Lin.walk_read ?_ (by kernel_rfl) (by kernel_rfl) (by kernel_rfl) (by rfl) ?_ ?_; rotate_left; (focus (intro w1 hC hI; have hI : Row w1 w5.heap.size 0 (wcells64 v) := hI; have d0 := hI.cell0 (i := 0) (wcells64_get (by have := HVL.out.2; omega)); rw [← HV0.out.1] at d0; have d1 := hI.cell0 (i := 1) (wcells64_get (by have := HVL.out.2; omega)); rw [← HV0.out.2.1] at d1; have d2 := hI.cell0 (i := 2) (wcells64_get (by have := HVL.out.2; omega)); rw [← HV0.out.2.2.1] at d2; have d3 := hI.cell0 (i := 3) (wcells64_get (by have := HVL.out.2; omega)); rw [← HV0.out.2.2.2.1] at d3; have d4 := hI.cell0 (i := 4) (wcells64_get (by have := HVL.out.2; omega)); rw [← HV0.out.2.2.2.2.1] at d4; have d5 := hI.cell0 (i := 5) (wcells64_get (by have := HVL.out.2; omega)); rw [← HV0.out.2.2.2.2.2.1] at d5; have d6 := hI.cell0 (i := 6) (wcells64_get (by have := HVL.out.2; omega)); rw [← HV0.out.2.2.2.2.2.2.1] at d6; (go_simp; (try go_ints); (try simp only [IntWalk.iteOmega]); (try go_simp); try with_reducible rfl))); (intro S' hS'; simp only [Act.put, List.setIfInBounds_toArray, List.set_cons_zero, List.set_cons_succ] at hS'; subst hS'))
              -- 21 184:build
              (refine Lin.walk_pure ?_ (by kernel_rfl) (by kernel_rfl) (by rfl) ?_ ?_; rotate_left; (focus (intro w; (go_simp; (try go_ints); (try simp only [IntWalk.iteOmega]); (try go_simp); try with_reducible rfl))); (intro S' hS'; simp only [Act.put, List.setIfInBounds_toArray, List.set_cons_zero, List.set_cons_succ] at hS'; subst hS'))
              -- 22 -:store
              (refine Lin.walk_last [] undef (by kernel_rfl) rfl (by kernel_rfl) (fun _ => by rfl) ?_ ?_; (focus (intro f w1 hF hC hI; dsimp only at hC hI; clear hF; have hI : Row w1 w5.heap.size 0 (wcells64 v) := hI; exact gives_storeRow 51 (.tmp 15) (.tmp 184) rfl w5.heap.size 0 (wcells64 v) (wcells64 [t1 + t2, v0, v1, v2, v3 + t1, v4, v5, v6]) rfl rfl hI 8 size8v (by rw [wcells64_length]; exact HVL.out.2) rfl (wcells64_one _) (fun w2 h1 h2 h3 h4 => ⟨rfl, h4, h1⟩))); (intro S' hS'; simp only [Act.put] at hS'; subst hS'))
              (refine Lin.walk_end0 rfl ?_; intro W' hC hI)
              replace C4 := C4.trans hC (fun _ _ h => h)
              have B9 : Row W' w5.heap.size 0 (wcells64 [t1 + t2, v0, v1, v2, v3 + t1, v4, v5, v6]) := hI
              clear hI hC a2 n2 vw
              go_wp2
              go_roundw
              case rel =>
                refine ⟨k + 1, [t1 + t2, v0, v1, v2, v3 + t1, v4, v5, v6], by omega, by go_num, ?_, rfl, B9, C4⟩
                rw [rounds, ← HVL.out.1]
                obtain ⟨h0, h1, h2, h3, h4, h5, h6, h7⟩ := HV0.out
                obtain ⟨k1, k2, k3, k4, k5, k6, k7, k8, k9⟩ := HCM.out
                have ech : ch = v6 ^^^ v4 &&& (v5 ^^^ v6) := by rw [k4, k1, k3, k2, choose_eq]
                have emj : mj = v0 &&& v1 ||| v2 &&& (v0 ||| v1) := by rw [k9, k7, k5, k6, k8, most_eq]
                unfold round
                simp only [turns3, ← h0, ← h1, ← h2, ← h3, ← h4, ← h5, ← h6, ← h7]
                rw [← ech, ← emj, ← HT1.out, ← HT2.out]
              case measure => simp [intOf]; omega
            · obtain rfl : k = 64 := by omega
              go_wp2_with fail
              have hzv5 := C3.size
              have C5 := C3.trans C4 (fun j hj e => by omega)
              have B2a := B2''.keep C4 (fun e => by omega)
              have B4a := B4''.keep C4 (fun e => by omega)
              have HVL := Lib.hid hvl
              have HV3 := Lib.hid hv'
              clear B2'' B4'' C3 C4 B6'' hvl hv' hk hlt B14 B15
              obtain ⟨w7, rfl⟩ : ∃ x : World, x = wr := ⟨_, rfl⟩
              simp only [Int.cast_ofNat_Int]
              go_loopw [23] (fun i wx => ∃ k : Nat, k ≤ 8 ∧ i = .int .i64 k ∧ Row wx w.heap.size 0 (wcells64 (sums h v k)) ∧ Chgd (fun j => j = w.heap.size) w7 wx) (fun i _ => 8 - (intOf i).toNat)
              case atStart => exact ⟨0, Nat.zero_le _, rfl, B2a, Chgd.refl _ _⟩
              case round =>
                obtain ⟨k, hk, rfl, B2b, C6⟩ := hrel
                have hne := hz4
                by_cases hlt : k < 8
                · have B15b := B15'.keep C6 (fun e => by omega)
                  have hsl : Hid ((sums h v k).length = 8) := Lib.hid (by rw [sums_length]; have := Hl8.out; rwa [wcells64_length] at this)
                  obtain ⟨u, hu⟩ : ∃ u, u = sums h v k := ⟨_, rfl⟩
                  rw [← hu] at B2b hsl
                  have HU := Lib.hid hu
                  clear hu
                  go_wp2_with fail
                  have a2 := s2
                  have n2 := m2
                  have vw := v_wrap
                  refine Lin.region_lin [0, 0, 2, 6, 0, 16, 48, 126, 254, 511, 1023] [] [10] (fun j => j = w.heap.size) (fun e w' => Row w' w.heap.size 0 (wcells64 (two u (sums h v (k + 1)) e)) ∧ Row w' w5.heap.size 0 (wcells64 v)) _ (by kernel_rfl) rfl (by kernel_rfl) (⟨B2b.drew, B15b.drew⟩) ?_
                  -- 0 189:move
                  (refine Lin.walk_pure ?_ (by kernel_rfl) (by kernel_rfl) (by rfl) ?_ ?_; rotate_left; (focus (intro w; (go_simp; (try go_ints); (try simp only [IntWalk.iteOmega]); (try go_simp); try with_reducible rfl))); (intro S' hS'; simp only [Act.put, List.setIfInBounds_toArray, List.set_cons_zero, List.set_cons_succ] at hS'; subst hS'))
                  -- 1 190:move
                  (refine Lin.walk_pure ?_ (by kernel_rfl) (by kernel_rfl) (by rfl) ?_ ?_; rotate_left; (focus (intro w; (go_simp; (try go_ints); (try simp only [IntWalk.iteOmega]); (try go_simp); try with_reducible rfl))); (intro S' hS'; simp only [Act.put, List.setIfInBounds_toArray, List.set_cons_zero, List.set_cons_succ] at hS'; subst hS'))
                  -- 2 191:indexAddr
                  (refine Lin.walk_pure ?_ (by kernel_rfl) (by kernel_rfl) (by rfl) ?_ ?_; rotate_left; (focus (intro w; (go_simp; (try go_ints); (try simp only [IntWalk.iteOmega]); (try go_simp); try with_reducible rfl))); (intro S' hS'; simp only [Act.put, List.setIfInBounds_toArray, List.set_cons_zero, List.set_cons_succ] at hS'; subst hS'))
                  -- 3 192:load
                  (refine Lin.walk_read ?_ (by kernel_rfl) (by kernel_rfl) (by kernel_rfl) (by rfl) ?_ ?_; rotate_left; (focus (intro w1 hC hI; have h1 : Row w1 w.heap.size 0 (wcells64 u) := hI.1; have c0 := h1.cell0 (i := k) (wcells64_get (by have := hsl.out; omega)); have c1 := hI.2.cell0 (i := k) (wcells64_get (by have := HVL.out; omega)); (go_simp; (try go_ints); (try simp only [IntWalk.iteOmega]); (try go_simp); try with_reducible rfl))); (intro S' hS'; simp only [Act.put, List.setIfInBounds_toArray, List.set_cons_zero, List.set_cons_succ] at hS'; subst hS'))
                  -- 4 193:move
                  (refine Lin.walk_pure ?_ (by kernel_rfl) (by kernel_rfl) (by rfl) ?_ ?_; rotate_left; (focus (intro w; (go_simp; (try go_ints); (try simp only [IntWalk.iteOmega]); (try go_simp); try with_reducible rfl))); (intro S' hS'; simp only [Act.put, List.setIfInBounds_toArray, List.set_cons_zero, List.set_cons_succ] at hS'; subst hS'))
                  -- 5 194:indexAddr
                  (refine Lin.walk_pure ?_ (by kernel_rfl) (by kernel_rfl) (by rfl) ?_ ?_; rotate_left; (focus (intro w; (go_simp; (try go_ints); (try simp only [IntWalk.iteOmega]); (try go_simp); try with_reducible rfl))); (intro S' hS'; simp only [Act.put, List.setIfInBounds_toArray, List.set_cons_zero, List.set_cons_succ] at hS'; subst hS'))
                  -- 6 195:load
                  (refine Lin.walk_read ?_ (by kernel_rfl) (by kernel_rfl) (by kernel_rfl) (by rfl) ?_ ?_; rotate_left; (focus (intro w1 hC hI; have h1 : Row w1 w.heap.size 0 (wcells64 u) := hI.1; have c0 := h1.cell0 (i := k) (wcells64_get (by have := hsl.out; omega)); have c1 := hI.2.cell0 (i := k) (wcells64_get (by have := HVL.out; omega)); (go_simp; (try go_ints); (try simp only [IntWalk.iteOmega]); (try go_simp); try with_reducible rfl))); (intro S' hS'; simp only [Act.put, List.setIfInBounds_toArray, List.set_cons_zero, List.set_cons_succ] at hS'; subst hS'))
                  -- 7 196:binOp
                  (refine Lin.walk_pure ?_ (by kernel_rfl) (by kernel_rfl) (by rfl) ?_ ?_; rotate_left; (focus (intro w; (go_simp; (try go_ints); (try simp only [IntWalk.iteOmega]); (try go_simp); try with_reducible rfl))); (intro S' hS'; simp only [Act.put, List.setIfInBounds_toArray, List.set_cons_zero, List.set_cons_succ] at hS'; subst hS'))
                  -- 8 197:binOp
                  (refine Lin.walk_pure ?_ (by kernel_rfl) (by kernel_rfl) (by rfl) ?_ ?_; rotate_left; (focus (intro w; (go_simp; (try go_ints); (try simp only [IntWalk.iteOmega]); (try go_simp); try with_reducible rfl))); (intro S' hS'; simp only [Act.put, List.setIfInBounds_toArray, List.set_cons_zero, List.set_cons_succ] at hS'; subst hS'))
                  -- 9 198:indexAddr
                  (refine Lin.walk_pure ?_ (by kernel_rfl) (by kernel_rfl) (by rfl) ?_ ?_; rotate_left; (focus (intro w; (go_simp; (try go_ints); (try simp only [IntWalk.iteOmega]); (try go_simp); try with_reducible rfl))); (intro S' hS'; simp only [Act.put, List.setIfInBounds_toArray, List.set_cons_zero, List.set_cons_succ] at hS'; subst hS'))
                  -- 10 -:store
                  (refine Lin.walk_last [] undef (by kernel_rfl) rfl (by kernel_rfl) (fun _ => by rfl) ?_ ?_; (focus (intro f w1 hF hC hI; dsimp only at hC hI; clear hF; have h1 : Row w1 w.heap.size 0 (wcells64 u) := hI.1; have hl := hsl.out; have c1 := h1.free0 (i := k) (by rw [wcells64_length]; omega); have c2 := h1.cell0 (i := k) (wcells64_get (by omega)); simp only [Lin.over_nil]; go_simp; refine ⟨rfl, Chgd.one _ _ _ _, ?_, hI.2.keep (Chgd.one _ _ _ _) (fun e => by omega)⟩; show Row _ _ 0 (wcells64 (sums h v (k + 1))); rw [sums, ← HU.out, ← wcells64_set]; exact Row.set0 (i := k) (cs := wcells64 u) h1 (by rw [wcells64_length]; omega) _)); (intro S' hS'; simp only [Act.put] at hS'; subst hS'))
                  (refine Lin.walk_end0 rfl ?_; intro W' hC hI)
                  replace C6 := C6.trans hC (fun _ _ h => h)
                  have B2c : Row W' w.heap.size 0 (wcells64 (sums h v (k + 1))) := hI.1
                  clear hI hC a2 n2 vw
                  go_wp2
                  go_roundw
                  case rel => exact ⟨k + 1, by omega, by go_num, B2c, C6⟩
                  case measure => simp [intOf]; omega
                · obtain rfl : k = 8 := by omega
                  have B4b := B4a.keep C6 (fun e => by omega)
                  have C7 : OnlyNew w wr := C5.trans C6 (fun j hj e => by omega)
                  rw [HV3.out, HW2.out, HWS.out] at B2b
                  have hl8' : Hid ((wcells64 (sums h (rounds h (sched (part bs 64) 64) 64) 8)).length = 8) := Lib.hid (by rw [wcells64_length, sums_length]; have := Hl8.out; rwa [wcells64_length] at this)
                  go_wp2_with (first
                    | (refine wpList_loadRow rfl 51 (.tmp 2) rfl w.heap.size 0 rfl _ B2b _ Tryd.underlying51 rfl 8 size8v hl8'.out ?_; rw [← HRV.out])
                    | (refine wpList_storeRow rfl 51 (.tmp 4) (.tmp 199) rfl (w.heap.size + 1) 0 _ (wcells64 (sums h (rounds h (sched (part bs 64) 64) 64) 8)) rfl (by show Value.agg rv = _; rw [HRV.out]) B4b 8 size8v rfl hl8'.out (wcells64_one _) ?_; intro w8 B8 _ _ c8))
                  have C8 : OnlyNew w w8 := C7.trans c8 (fun j hj e => by omega)
                  refine bodyPost_ret (v := .tuple #[.agg rv, .bool true]) ?_ rfl ⟨rfl, C8⟩
                  rw [HRV.out]
                  exact results_cell_mid_tmp (p := 4) (u := 5) (ty := 51) rfl _ w8 (w.heap.size + 1) 0 (wcells64 (sums h (rounds h (sched (part bs 64) 64) 64) 8)) _ rfl B8.1 Tryd.underlying51 rfl (by rw [hl8'.out]; exact size8v)
end Go.Proofs.YtomalanncdcopaaDoor.Dig
