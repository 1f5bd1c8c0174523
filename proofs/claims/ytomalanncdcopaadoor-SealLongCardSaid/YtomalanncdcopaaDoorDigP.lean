/- The contracts of package digest. -/
import Derived.Test.YtomalanncdcopaaDoorDig0
import Derived.Test.YtomalanncdcopaaDoorConv
import Derived.Test.YtomalanncdcopaaDoorRows
import Derived.WalkKit
import Derived.WalkSpells
import Derived.WalkLawsBesides
import Derived.Lib.Hide
set_option linter.unusedSimpArgs false
set_option linter.unusedVariables false
namespace Go.Proofs.YtomalanncdcopaaDoor.Dig
open Go Go.RowKit Go.Proofs.YtomalanncdcopaaDoor.Mem

theorem size8 : (Tryd.prog.info? 37).map (·.size) = some 8 := by kernel_rfl
theorem size64 : (Tryd.prog.info? 55).map (·.size) = some 64 := by kernel_rfl
/-- The table lies in its variable. -/
def KTab (w : World) : Prop := ∀ j, j < 64 → w.cell? ⟨0, j, none⟩ = some (.int .u32 (wn (wat kTab j)))
theorem KTab.lt {w : World} (h : KTab w) : 0 < w.heap.size := block_lt (h 0 (by omega))
theorem KTab.keep {w w' : World} {S : Nat → Prop} (h : KTab w) (hc : Chgd S w w') (hs : ¬ S 0) : KTab w' := fun j hj => hc.at_ (h j hj) hs
theorem rotl_any (x : Word) (n : Nat) (hn : 1 ≤ n ∧ n < 32) (w : World) :
    Calls Tryd.prog 31 #[wv x, .int .i64 (-(n : Int))] w fun r w' => r = .returned (wv (rr x n)) ∧ w = w' := by
  unfold wv
  obtain ⟨m, hm⟩ : ∃ m, m = 32 - n := ⟨_, rfl⟩
  have hk : bits .and .u64 (IntKind.u64.wrap (-(n : Int))) 31 = (m : Int) := by
    have e1 : IntKind.u64.wrap (-(n : Int)) = ((18446744073709551616 - n : Nat) : Int) := by rw [IntKind.wrap_u64]; omega
    rw [e1]
    have e2 := u64_and_nat (18446744073709551616 - n) 31 (by omega) (by omega)
    refine Eq.trans e2 ?_
    have e3 : (31 : Nat) = 2 ^ 5 - 1 := rfl
    rw [e3, Nat.and_two_pow_sub_one_eq_mod]
    omega
  have hm1 : 1 ≤ m ∧ m ≤ 31 := by omega
  have hnm : (32 : Int) - m = n := by omega
  have HM := Lib.hid hm
  clear hm
  go_enter Tryd.func31, Tryd.ntmps31
  go_wp2
  go_ret
  refine ⟨?_, rfl⟩
  rw [rot_eq x n m hn.2 HM.out]
  rfl

theorem turned_any (x : Word) (ns : List Nat) (hns : ∀ n ∈ ns, 1 ≤ n ∧ n < 32) (hl : ns.length ≤ 100) (B : Nat) (w : World) (hB : ∀ (j : Nat) (h : j < ns.length), w.cell? ⟨B, j, none⟩ = some (.int .i64 (ns[j] : Int))) :
    Calls Tryd.prog 28 #[wv x, .slice (some ⟨B, 0, none⟩) ns.length ns.length] w fun r w' => r = .returned (wv (turns x ns)) ∧ w = w' := by
  unfold wv
  have hx := w_xor
  obtain ⟨N, hN⟩ : ∃ N, N = ns.length := ⟨_, rfl⟩
  rw [← hN]
  have hN1 : N ≤ 100 := by omega
  have HN := Lib.hid hN
  have HB := Lib.hid hB
  clear hN hB
  go_enter Tryd.func28, Tryd.ntmps28
  go_wp2
  go_loop [4, 9] (fun y i => ∃ k : Nat, k ≤ N ∧ i = .int .i64 k ∧ y = .int .u32 (wn (turns x (ns.take k)))) (fun _ i => N - (intOf i).toNat)
  case atStart => exact ⟨0, Nat.zero_le _, rfl, rfl⟩
  case round =>
    obtain ⟨k, hk, rfl, rfl⟩ := hrel
    by_cases hlt : k < N
    · have hkl : k < ns.length := by have := HN.out; omega
      have hc := HB.out k hkl
      obtain ⟨n, hn⟩ : ∃ n, n = ns[k] := ⟨_, rfl⟩
      rw [← hn] at hc
      have hn1 := hns ns[k] (List.getElem_mem hkl)
      rw [← hn] at hn1
      have hs : Hid (turns x (ns.take (k + 1)) = turns x (ns.take k) ^^^ rr x n) := by
        refine Lib.hid ?_
        rw [List.take_succ_eq_append_getElem hkl, turns_snoc, hn]
      have HE := Lib.hid hn
      clear hn
      generalize turns x (ns.take k) = y at *
      go_wp2_with (go_at_call 31; refine (rotl_any x n hn1 _).mono ?_; rintro e w' ⟨rfl, rfl⟩; unfold wv)
      go_round
      case rel => exact ⟨k + 1, by omega, by go_num, by rw [hs.out]⟩
      case measure => simp [intOf]; omega
    · obtain rfl : k = N := by omega
      go_wp2
      go_ret
      refine ⟨?_, rfl⟩
      rw [HN.out, List.take_length]
      rfl

set_option maxRecDepth 100000 in
set_option maxHeartbeats 1000000 in
theorem comp_any (h : List Word) (hh : h.length = 8) (bs : List UInt8) (hb : bs.length = 64) (w : World) (hKT : KTab w) :
    Calls Tryd.prog 21 #[.agg (wcells h).toArray, .string (bstr bs)] w fun r w' => r = .returned (.tuple #[.agg (wcells (comp h bs)).toArray, .bool true]) ∧ OnlyNew w w' := by
  unfold comp
  obtain ⟨rv, hrv⟩ : ∃ rv, rv = (wcells (sums h (rounds h (sched (part bs 64) 64) 64) 8)).toArray := ⟨_, rfl⟩
  obtain ⟨hv, hhv⟩ : ∃ hv, hv = (wcells h).toArray := ⟨_, rfl⟩
  rw [← hhv, ← hrv]
  have HRV := Lib.hid hrv
  have HKT := Lib.hid hKT
  clear hrv hKT
  obtain ⟨b, hbs⟩ : ∃ b, b = bstr bs := ⟨_, rfl⟩
  rw [← hbs]
  have hsz : b.size = 64 := by rw [hbs, bstr_size]; exact hb
  have HV := Lib.hid hhv
  have HB := Lib.hid hbs
  clear hhv hbs
  go_enter Tryd.func21, Tryd.ntmps21
  go_wp2_with (refine wpList_bytes rfl 9 27 (.tmp 24) rfl 5 Tryd.underlying9 Tryd.underlying27 Tryd.underlying5 bs (by omega) (by show Value.string b = _; rw [HB.out]) ?_; intro g1 cap1 W1 hR1 hN1 hg1)
  have B2 := (((Row.newAt w hv 37 (wcells h) w.heap.size rfl (by rw [HV.out])).alloc _).alloc _).keep hN1 (fun h => h)
  have B4 := ((Row.newAt (w.alloc (.cells hv 37)) _ 37 _ (w.heap.size + 1) (by simp) rfl).alloc _).keep hN1 (fun h => h)
  have B6 := (Row.newAt ((w.alloc (.cells hv 37)).alloc (.cells #[.int .u32 0, .int .u32 0, .int .u32 0, .int .u32 0, .int .u32 0, .int .u32 0, .int .u32 0, .int .u32 0] 37)) (wcells (part bs 0)).toArray 55 _ (w.heap.size + 1 + 1) (by simp) rfl).keep hN1 (fun h => h)
  have C0 : OnlyNew w W1 := ((((Chgd.refl _ w).alloc _).alloc _).alloc _).trans hN1 (fun _ _ h => h)
  have hg2 : w.heap.size + 3 ≤ g1 := by simp at hg1; omega
  clear hN1 hg1
  go_loopw [27] (fun i wr => ∃ k : Nat, k ≤ 64 ∧ i = .int .i64 k ∧ Row wr (w.heap.size + 1 + 1) 0 (wcells (part bs k)) ∧ Chgd (fun j => j = w.heap.size + 1 + 1) W1 wr) (fun i _ => 64 - (intOf i).toNat)
  case atStart => exact ⟨0, Nat.zero_le _, rfl, B6, Chgd.refl _ _⟩
  case round =>
    obtain ⟨k, hk, rfl, B6', C1⟩ := hrel
    by_cases hlt : k < 64
    ·
      obtain ⟨c, hc⟩ : ∃ c, c = bs.getD k 0 := ⟨_, rfl⟩
      have hcell : wr.cell? ⟨g1, k, none⟩ = some (.int .u8 (c.toNat : Int)) := by
        obtain ⟨b', off', e1, _, e2, _⟩ := (hR1.keep C1 (fun j e => by cases e; omega)).form (by omega)
        cases e1
        have := e2 k (.int .u8 (c.toNat : Int)) (by rw [hc]; simp [cellsOf, List.getD, hb, hlt])
        rwa [Nat.zero_add] at this
      obtain ⟨n, hn⟩ : ∃ n, n = c.toNat := ⟨_, rfl⟩
      have hn1 : n < 256 := by rw [hn]; exact c.toNat_lt
      rw [← hn] at hcell
      obtain ⟨q, hq⟩ : ∃ q, q = k / 4 := ⟨_, rfl⟩
      obtain ⟨r, hr⟩ : ∃ r, r = k % 4 := ⟨_, rfl⟩
      obtain ⟨s, hs⟩ : ∃ s, s = 24 - 8 * r := ⟨_, rfl⟩
      have hq1 : q < 16 := by omega
      have hr1 : r ≤ 3 := by omega
      have hs1 : s ≤ 24 := by omega
      have eq1 : (k : Int) / 4 = (q : Int) := by omega
      have er1 : (k : Int) % 4 = (r : Int) := by omega
      have es1 : (24 : Int) - 8 * (r : Int) = (s : Int) := by omega
      have ew : (n : Int) * 2 ^ s % 4294967296 = wn (ofByte c <<< s) := by rw [← w_shl, wn_ofByte, hn]
      have hwo := w_or
      have hpart : part bs (k + 1) = (part bs k).set q (wat (part bs k) q ||| ofByte c <<< s) := by rw [part, hs, hr, hq, hc]
      have HS := Lib.hid hpart
      clear hc hq hr hs hn hpart
      have HH := Lib.hid (⟨eq1, er1, es1, ew, hwo⟩ : _ ∧ _ ∧ _ ∧ _ ∧ _)
      clear eq1 er1 es1 ew hwo
      go_wp2
      obtain ⟨eq1, er1, es1, ew, hwo⟩ := HH.out
      trace "0"
      refine Lin.region_lin [0, 1, 3, 7, 0, 16, 0, 64, 192, 448, 1008, 2047, 4095, 8191] [] [13] (fun j => j = w.heap.size + 1 + 1) (fun e w' => Row w' (w.heap.size + 1 + 1) 0 (wcells (part bs (k + e)))) _ (by kernel_rfl) rfl (by kernel_rfl) (B6'.drew) ?_
      -- 0 32:move
      (refine Lin.walk_pure ?_ (by kernel_rfl) (by kernel_rfl) (by rfl) ?_ ?_; rotate_left; (focus (intro w; (go_simp; (try go_ints); (try simp only [IntWalk.iteOmega]); (try go_simp); try with_reducible rfl))); (intro S' hS'; simp only [Act.put, List.setIfInBounds_toArray, List.set_cons_zero, List.set_cons_succ] at hS'; subst hS'))
      -- 1 33:binOp
      (refine Lin.walk_pure ?_ (by kernel_rfl) (by kernel_rfl) (by rfl) ?_ ?_; rotate_left; (focus (intro w; (go_simp; (try go_ints); (try simp only [IntWalk.iteOmega]); (try go_simp); try with_reducible rfl))); (intro S' hS'; simp only [Act.put, List.setIfInBounds_toArray, List.set_cons_zero, List.set_cons_succ] at hS'; subst hS'))
      -- 2 34:indexAddr
      (refine Lin.walk_pure ?_ (by kernel_rfl) (by kernel_rfl) (by rfl) ?_ ?_; rotate_left; (focus (intro w; (go_simp; (try go_ints); (try simp only [IntWalk.iteOmega]); (try go_simp); try with_reducible rfl))); (intro S' hS'; simp only [Act.put, List.setIfInBounds_toArray, List.set_cons_zero, List.set_cons_succ] at hS'; subst hS'))
      -- 3 35:load
      (refine Lin.walk_read ?_ (by kernel_rfl) (by kernel_rfl) (by kernel_rfl) (by rfl) ?_ ?_; rotate_left; (focus (intro w1 hC hI; have c1 := hI.cell0 (i := q) (wcells_get (by rw [part_length]; omega)); (go_simp; (try go_ints); (try simp only [IntWalk.iteOmega]); (try go_simp); try with_reducible rfl))); (intro S' hS'; simp only [Act.put, List.setIfInBounds_toArray, List.set_cons_zero, List.set_cons_succ] at hS'; subst hS'))
      -- 4 36:move
      (refine Lin.walk_pure ?_ (by kernel_rfl) (by kernel_rfl) (by rfl) ?_ ?_; rotate_left; (focus (intro w; (go_simp; (try go_ints); (try simp only [IntWalk.iteOmega]); (try go_simp); try with_reducible rfl))); (intro S' hS'; simp only [Act.put, List.setIfInBounds_toArray, List.set_cons_zero, List.set_cons_succ] at hS'; subst hS'))
      -- 5 37:convert
      (refine Lin.walk_pure ?_ (by kernel_rfl) (by kernel_rfl) (by rfl) ?_ ?_; rotate_left; (focus (intro w; (go_simp; (try go_ints); (try simp only [IntWalk.iteOmega]); (try go_simp); try with_reducible rfl))); (intro S' hS'; simp only [Act.put, List.setIfInBounds_toArray, List.set_cons_zero, List.set_cons_succ] at hS'; subst hS'))
      -- 6 38:move
      (refine Lin.walk_pure ?_ (by kernel_rfl) (by kernel_rfl) (by rfl) ?_ ?_; rotate_left; (focus (intro w; (go_simp; (try go_ints); (try simp only [IntWalk.iteOmega]); (try go_simp); try with_reducible rfl))); (intro S' hS'; simp only [Act.put, List.setIfInBounds_toArray, List.set_cons_zero, List.set_cons_succ] at hS'; subst hS'))
      -- 7 39:binOp
      (refine Lin.walk_pure ?_ (by kernel_rfl) (by kernel_rfl) (by rfl) ?_ ?_; rotate_left; (focus (intro w; (go_simp; (try go_ints); (try simp only [IntWalk.iteOmega]); (try go_simp); try with_reducible rfl))); (intro S' hS'; simp only [Act.put, List.setIfInBounds_toArray, List.set_cons_zero, List.set_cons_succ] at hS'; subst hS'))
      -- 8 40:binOp
      (refine Lin.walk_pure ?_ (by kernel_rfl) (by kernel_rfl) (by rfl) ?_ ?_; rotate_left; (focus (intro w; (go_simp; (try go_ints); (try simp only [IntWalk.iteOmega]); (try go_simp); try with_reducible rfl))); (intro S' hS'; simp only [Act.put, List.setIfInBounds_toArray, List.set_cons_zero, List.set_cons_succ] at hS'; subst hS'))
      -- 9 41:binOp
      (refine Lin.walk_pure ?_ (by kernel_rfl) (by kernel_rfl) (by rfl) ?_ ?_; rotate_left; (focus (intro w; (go_simp; (try go_ints); (try simp only [IntWalk.iteOmega]); (try go_simp); try with_reducible rfl))); (intro S' hS'; simp only [Act.put, List.setIfInBounds_toArray, List.set_cons_zero, List.set_cons_succ] at hS'; subst hS'))
      -- 10 42:binOp
      (refine Lin.walk_pure ?_ (by kernel_rfl) (by kernel_rfl) (by rfl) ?_ ?_; rotate_left; (focus (intro w; (go_simp; (try go_ints); (try simp only [IntWalk.iteOmega]); (try go_simp); try with_reducible rfl))); (intro S' hS'; simp only [Act.put, List.setIfInBounds_toArray, List.set_cons_zero, List.set_cons_succ] at hS'; subst hS'))
      -- 11 43:binOp
      (refine Lin.walk_pure ?_ (by kernel_rfl) (by kernel_rfl) (by rfl) ?_ ?_; rotate_left; (focus (intro w; (go_simp; (try go_ints); (try simp only [IntWalk.iteOmega]); (try go_simp); try with_reducible rfl))); (intro S' hS'; simp only [Act.put, List.setIfInBounds_toArray, List.set_cons_zero, List.set_cons_succ] at hS'; subst hS'))
      -- 12 44:indexAddr
      (refine Lin.walk_pure ?_ (by kernel_rfl) (by kernel_rfl) (by rfl) ?_ ?_; rotate_left; (focus (intro w; (go_simp; (try go_ints); (try simp only [IntWalk.iteOmega]); (try go_simp); try with_reducible rfl))); (intro S' hS'; simp only [Act.put, List.setIfInBounds_toArray, List.set_cons_zero, List.set_cons_succ] at hS'; subst hS'))
      -- 13 -:store
      (refine Lin.walk_last [] undef (by kernel_rfl) rfl (by kernel_rfl) (fun _ => by rfl) ?_ ?_; (focus (intro f w1 hF hC hI; clear hF; simp only [Lin.over_nil]; have c2 := hI.free0 (i := q) (by rw [wcells_length, part_length]; omega); have c1 := hI.cell0 (i := q) (wcells_get (by rw [part_length]; omega)); go_simp; refine ⟨rfl, Chgd.one _ _ _ _, ?_⟩; rw [HS.out, ← wcells_set]; exact hI.set0 (by rw [wcells_length, part_length]; omega) _)); (intro S' hS'; simp only [Act.put, List.setIfInBounds_toArray, List.set_cons_zero, List.set_cons_succ] at hS'; subst hS'))
      (refine Lin.walk_end0 rfl ?_; intro W' hC hI; dsimp only at hC hI)
      clear eq1 er1 es1 ew hwo
      go_wp2
      go_roundw
      case rel => exact ⟨k + 1, by omega, by go_num, hI, C1.trans hC (fun _ _ h => h)⟩
      case measure => simp [intOf]; omega
    · obtain rfl : k = 64 := by omega
      go_wp2
      have C1' := C0.trans C1 (fun j hj e => by omega)
      have B2' := B2.keep C1 (fun e => by omega)
      have B4' := B4.keep C1 (fun e => by omega)
      clear B2 B4 B6 C0 C1 hg2 hR1 hk hlt
      obtain ⟨ws, hws⟩ : ∃ ws, ws = part bs 64 := ⟨_, rfl⟩
      have hl64 : Hid (ws.length = 64) := Lib.hid (by rw [hws, part_length])
      rw [← hws] at B6'
      have HWS := Lib.hid hws
      clear hws
      go_loopw [9] (fun i wx => ∃ k : Nat, 16 ≤ k ∧ k ≤ 64 ∧ i = .int .i64 k ∧ Row wx (w.heap.size + 1 + 1) 0 (wcells (sched ws k)) ∧ Chgd (fun j => j = w.heap.size + 1 + 1) wr wx) (fun i _ => 64 - (intOf i).toNat)
      case atStart => exact ⟨16, by omega, by omega, rfl, B6', Chgd.refl _ _⟩
      case round =>
        rename_i wx _
        obtain ⟨k, hk16, hk, rfl, B6'', C2⟩ := hrel
        by_cases hlt : k < 64
        ·
          have hlen : (wcells (sched ws k)).length = 64 := by rw [wcells_length, sched_length]; exact hl64.out
          obtain ⟨wk, hwk⟩ : ∃ wk, wk = sched ws k := ⟨_, rfl⟩
          rw [← hwk] at B6'' hlen
          have HL := Lib.hid hlen
          have HK := Lib.hid hwk
          clear hwk hlen
          go_wp2
          refine Lin.region_lin [0, 1, 3, 7, 0, 16, 48, 112, 15, 511] [] [] (fun _ => False) (fun _ w' => Row w' (w.heap.size + 1 + 1) 0 (wcells wk)) _ (by kernel_rfl) rfl (by kernel_rfl) (B6''.drew) ?_
          -- 0 50:move
          (refine Lin.walk_pure ?_ (by kernel_rfl) (by kernel_rfl) (by rfl) ?_ ?_; rotate_left; (focus (intro w; (go_simp; (try go_ints); (try simp only [IntWalk.iteOmega]); (try go_simp); try with_reducible rfl))); (intro S' hS'; simp only [Act.put, List.setIfInBounds_toArray, List.set_cons_zero, List.set_cons_succ] at hS'; subst hS'))
          -- 1 51:binOp
          (refine Lin.walk_pure ?_ (by kernel_rfl) (by kernel_rfl) (by rfl) ?_ ?_; rotate_left; (focus (intro w; (go_simp; (try go_ints); (try simp only [IntWalk.iteOmega]); (try go_simp); try with_reducible rfl))); (intro S' hS'; simp only [Act.put, List.setIfInBounds_toArray, List.set_cons_zero, List.set_cons_succ] at hS'; subst hS'))
          -- 2 52:indexAddr
          (refine Lin.walk_pure ?_ (by kernel_rfl) (by kernel_rfl) (by rfl) ?_ ?_; rotate_left; (focus (intro w; (go_simp; (try go_ints); (try simp only [IntWalk.iteOmega]); (try go_simp); try with_reducible rfl))); (intro S' hS'; simp only [Act.put, List.setIfInBounds_toArray, List.set_cons_zero, List.set_cons_succ] at hS'; subst hS'))
          -- 3 53:load
          (refine Lin.walk_read ?_ (by kernel_rfl) (by kernel_rfl) (by kernel_rfl) (by rfl) ?_ ?_; rotate_left; (focus (intro w1 hC hI; have c1 := hI.cell0 (i := k - 15) (wcells_get (by have := HL.out; rw [wcells_length] at this; omega)); have c2 := hI.cell0 (i := k - 2) (wcells_get (by have := HL.out; rw [wcells_length] at this; omega)); (go_simp; (try go_ints); (try simp only [IntWalk.iteOmega]); (try go_simp); try with_reducible rfl))); (intro S' hS'; simp only [Act.put, List.setIfInBounds_toArray, List.set_cons_zero, List.set_cons_succ] at hS'; subst hS'))
          -- 4 54:move
          (refine Lin.walk_pure ?_ (by kernel_rfl) (by kernel_rfl) (by rfl) ?_ ?_; rotate_left; (focus (intro w; (go_simp; (try go_ints); (try simp only [IntWalk.iteOmega]); (try go_simp); try with_reducible rfl))); (intro S' hS'; simp only [Act.put, List.setIfInBounds_toArray, List.set_cons_zero, List.set_cons_succ] at hS'; subst hS'))
          -- 5 55:binOp
          (refine Lin.walk_pure ?_ (by kernel_rfl) (by kernel_rfl) (by rfl) ?_ ?_; rotate_left; (focus (intro w; (go_simp; (try go_ints); (try simp only [IntWalk.iteOmega]); (try go_simp); try with_reducible rfl))); (intro S' hS'; simp only [Act.put, List.setIfInBounds_toArray, List.set_cons_zero, List.set_cons_succ] at hS'; subst hS'))
          -- 6 56:indexAddr
          (refine Lin.walk_pure ?_ (by kernel_rfl) (by kernel_rfl) (by rfl) ?_ ?_; rotate_left; (focus (intro w; (go_simp; (try go_ints); (try simp only [IntWalk.iteOmega]); (try go_simp); try with_reducible rfl))); (intro S' hS'; simp only [Act.put, List.setIfInBounds_toArray, List.set_cons_zero, List.set_cons_succ] at hS'; subst hS'))
          -- 7 57:load
          (refine Lin.walk_read ?_ (by kernel_rfl) (by kernel_rfl) (by kernel_rfl) (by rfl) ?_ ?_; rotate_left; (focus (intro w1 hC hI; have c1 := hI.cell0 (i := k - 15) (wcells_get (by have := HL.out; rw [wcells_length] at this; omega)); have c2 := hI.cell0 (i := k - 2) (wcells_get (by have := HL.out; rw [wcells_length] at this; omega)); (go_simp; (try go_ints); (try simp only [IntWalk.iteOmega]); (try go_simp); try with_reducible rfl))); (intro S' hS'; simp only [Act.put, List.setIfInBounds_toArray, List.set_cons_zero, List.set_cons_succ] at hS'; subst hS'))
          -- 8 10:assign
          (refine Lin.walk_pure ?_ (by kernel_rfl) (by kernel_rfl) (by rfl) ?_ ?_; rotate_left; (focus (intro w; (go_simp; (try go_ints); (try simp only [IntWalk.iteOmega]); (try go_simp); try with_reducible rfl))); (intro S' hS'; simp only [Act.put, List.setIfInBounds_toArray, List.set_cons_zero, List.set_cons_succ] at hS'; subst hS'))
          -- 9 11:assign
          (refine Lin.walk_pure ?_ (by kernel_rfl) (by kernel_rfl) (by rfl) ?_ ?_; rotate_left; (focus (intro w; (go_simp; (try go_ints); (try simp only [IntWalk.iteOmega]); (try go_simp); try with_reducible rfl))); (intro S' hS'; simp only [Act.put, List.setIfInBounds_toArray, List.set_cons_zero, List.set_cons_succ] at hS'; subst hS'))
          (refine Lin.walk_end0 rfl ?_; intro W' hC hI; dsimp only at hC hI)
          have B7 := hI
          replace C2 := C2.trans hC (fun _ _ h => h.elim)
          clear hI hC B6''
          obtain ⟨x, hx⟩ : ∃ x, x = wat wk (k - 15) := ⟨_, rfl⟩
          obtain ⟨y, hy⟩ : ∃ y, y = wat wk (k - 2) := ⟨_, rfl⟩
          rw [← hx, ← hy]
          have HXY := Lib.hid (⟨hx, hy⟩ : _ ∧ _)
          clear hx hy
          go_wp2
          have hwa := w_add
          have hwx := w_xor
          have h3 := shr3
          have h10 := shr10
          refine Lin.region_lin [0, 0, 2, 6, 14, 0, 0, 96, 0, 256, 992, 2046, 0, 4096, 12288, 28672, 65534, 0, 0, 393440, 0, 1048576, 4063456, 8388606, 16777215, 33554431] [6,18] [25] (fun j => j = w.heap.size + 1 + 1) (fun e w' => Row w' (w.heap.size + 1 + 1) 0 (wcells (two wk (sched ws (k + 1)) e))) _ (by kernel_rfl) rfl (by kernel_rfl) (B7.drew) ?_
          -- 0 58:move
          (refine Lin.walk_pure ?_ (by kernel_rfl) (by kernel_rfl) (by rfl) ?_ ?_; rotate_left; (focus (intro w; (go_simp; (try go_ints); (try simp only [IntWalk.iteOmega]); (try go_simp); try with_reducible rfl))); (intro S' hS'; simp only [Act.put, List.setIfInBounds_toArray, List.set_cons_zero, List.set_cons_succ] at hS'; subst hS'))
          -- 1 59:move
          (refine Lin.walk_pure ?_ (by kernel_rfl) (by kernel_rfl) (by rfl) ?_ ?_; rotate_left; (focus (intro w; (go_simp; (try go_ints); (try simp only [IntWalk.iteOmega]); (try go_simp); try with_reducible rfl))); (intro S' hS'; simp only [Act.put, List.setIfInBounds_toArray, List.set_cons_zero, List.set_cons_succ] at hS'; subst hS'))
          -- 2 60:binOp
          (refine Lin.walk_pure ?_ (by kernel_rfl) (by kernel_rfl) (by rfl) ?_ ?_; rotate_left; (focus (intro w; (go_simp; (try go_ints); (try simp only [IntWalk.iteOmega]); (try go_simp); try with_reducible rfl))); (intro S' hS'; simp only [Act.put, List.setIfInBounds_toArray, List.set_cons_zero, List.set_cons_succ] at hS'; subst hS'))
          -- 3 61:indexAddr
          (refine Lin.walk_pure ?_ (by kernel_rfl) (by kernel_rfl) (by rfl) ?_ ?_; rotate_left; (focus (intro w; (go_simp; (try go_ints); (try simp only [IntWalk.iteOmega]); (try go_simp); try with_reducible rfl))); (intro S' hS'; simp only [Act.put, List.setIfInBounds_toArray, List.set_cons_zero, List.set_cons_succ] at hS'; subst hS'))
          -- 4 62:load
          (refine Lin.walk_read ?_ (by kernel_rfl) (by kernel_rfl) (by kernel_rfl) (by rfl) ?_ ?_; rotate_left; (focus (intro w1 hC hI; have hI : Row w1 (w.heap.size + 1 + 1) 0 (wcells wk) := hI; have c1 := hI.cell0 (i := k - 16) (wcells_get (by have := HL.out; rw [wcells_length] at this; omega)); have c2 := hI.cell0 (i := k - 7) (wcells_get (by have := HL.out; rw [wcells_length] at this; omega)); (go_simp; (try go_ints); (try simp only [IntWalk.iteOmega]); (try go_simp); try with_reducible rfl))); (intro S' hS'; simp only [Act.put, List.setIfInBounds_toArray, List.set_cons_zero, List.set_cons_succ] at hS'; subst hS'))
          -- 5 63:move
          (refine Lin.walk_pure ?_ (by kernel_rfl) (by kernel_rfl) (by rfl) ?_ ?_; rotate_left; (focus (intro w; (go_simp; (try go_ints); (try simp only [IntWalk.iteOmega]); (try go_simp); try with_reducible rfl))); (intro S' hS'; simp only [Act.put, List.setIfInBounds_toArray, List.set_cons_zero, List.set_cons_succ] at hS'; subst hS'))
          -- 6 64:buildSlice
          (refine Lin.walk_fact [] 64 (NumsAt (w.heap.size + 1 + 1 + 1) [7, 18]) rfl (by kernel_rfl) (by kernel_rfl) (by kernel_rfl) (by kernel_rfl) (by kernel_rfl) (by kernel_rfl) (fun _ => by rfl) (fun v w1 w2 h hc => h.keep hc (fun j e => by omega)) ?_ ?_; (focus (intro f w1 hF hC hI; dsimp only at hC hI; have hI : Row w1 (w.heap.size + 1 + 1) 0 (wcells wk) := hI; have hz := hI.lt (by have := HL.out; omega); clear hF; simp only [Lin.over_nil]; go_simp; exact ⟨NumsAt.new _ _ _ _ (by omega) _ rfl _ rfl, (Chgd.refl _ _).alloc _, hI.alloc _⟩)); (intro S' hS'; simp only [Act.put, List.setIfInBounds_toArray, List.set_cons_zero, List.set_cons_succ] at hS'; subst hS'))
          -- 7 65:call!
          (refine Lin.walk_soft [64] (.int .u32 (wn (turns x [7, 18]))) (by kernel_rfl) (by kernel_rfl) (by kernel_rfl) (fun _ => by rfl) ?_ ?_; (focus (intro f w1 hF hC hI; dsimp only at hC hI; obtain ⟨v, hv, B, rfl, hB, hN⟩ : ∃ v, [f 64] = [v] ∧ NumsAt (w.heap.size + 1 + 1 + 1) [7, 18] v w1 := hF 6 (by decide) (by kernel_rfl); have h64 := List.singleton_inj.1 hv; clear hF hv; simp only [Lin.over, List.foldl, Act.put, List.setIfInBounds_toArray, List.set_cons_zero, List.set_cons_succ, h64]; go_simp; exact Calls.mono (turned_any x [7, 18] (by decide) (by decide) B _ hN) (by rintro e w2 ⟨rfl, rfl⟩; exact ⟨_, rfl, rfl, Chgd.refl _ _, hI⟩))); (intro S' hS'; simp only [Act.put, List.setIfInBounds_toArray, List.set_cons_zero, List.set_cons_succ] at hS'; subst hS'))
          -- 8 66:move
          (refine Lin.walk_pure ?_ (by kernel_rfl) (by kernel_rfl) (by rfl) ?_ ?_; rotate_left; (focus (intro w; (go_simp; (try go_ints); (try simp only [IntWalk.iteOmega]); (try go_simp); try with_reducible rfl))); (intro S' hS'; simp only [Act.put, List.setIfInBounds_toArray, List.set_cons_zero, List.set_cons_succ] at hS'; subst hS'))
          -- 9 67:binOp
          (refine Lin.walk_pure ?_ (by kernel_rfl) (by kernel_rfl) (by rfl) ?_ ?_; rotate_left; (focus (intro w; (go_simp; (try go_ints); (try simp only [IntWalk.iteOmega]); (try go_simp); try with_reducible rfl))); (intro S' hS'; simp only [Act.put, List.setIfInBounds_toArray, List.set_cons_zero, List.set_cons_succ] at hS'; subst hS'))
          -- 10 68:binOp
          (refine Lin.walk_pure ?_ (by kernel_rfl) (by kernel_rfl) (by rfl) ?_ ?_; rotate_left; (focus (intro w; (go_simp; (try go_ints); (try simp only [IntWalk.iteOmega]); (try go_simp); try with_reducible rfl))); (intro S' hS'; simp only [Act.put, List.setIfInBounds_toArray, List.set_cons_zero, List.set_cons_succ] at hS'; subst hS'))
          -- 11 69:binOp
          (refine Lin.walk_pure ?_ (by kernel_rfl) (by kernel_rfl) (by rfl) ?_ ?_; rotate_left; (focus (intro w; (go_simp; (try go_ints); (try simp only [IntWalk.iteOmega]); (try go_simp); try with_reducible rfl))); (intro S' hS'; simp only [Act.put, List.setIfInBounds_toArray, List.set_cons_zero, List.set_cons_succ] at hS'; subst hS'))
          -- 12 70:move
          (refine Lin.walk_pure ?_ (by kernel_rfl) (by kernel_rfl) (by rfl) ?_ ?_; rotate_left; (focus (intro w; (go_simp; (try go_ints); (try simp only [IntWalk.iteOmega]); (try go_simp); try with_reducible rfl))); (intro S' hS'; simp only [Act.put, List.setIfInBounds_toArray, List.set_cons_zero, List.set_cons_succ] at hS'; subst hS'))
          -- 13 71:binOp
          (refine Lin.walk_pure ?_ (by kernel_rfl) (by kernel_rfl) (by rfl) ?_ ?_; rotate_left; (focus (intro w; (go_simp; (try go_ints); (try simp only [IntWalk.iteOmega]); (try go_simp); try with_reducible rfl))); (intro S' hS'; simp only [Act.put, List.setIfInBounds_toArray, List.set_cons_zero, List.set_cons_succ] at hS'; subst hS'))
          -- 14 72:indexAddr
          (refine Lin.walk_pure ?_ (by kernel_rfl) (by kernel_rfl) (by rfl) ?_ ?_; rotate_left; (focus (intro w; (go_simp; (try go_ints); (try simp only [IntWalk.iteOmega]); (try go_simp); try with_reducible rfl))); (intro S' hS'; simp only [Act.put, List.setIfInBounds_toArray, List.set_cons_zero, List.set_cons_succ] at hS'; subst hS'))
          -- 15 73:load
          (refine Lin.walk_read ?_ (by kernel_rfl) (by kernel_rfl) (by kernel_rfl) (by rfl) ?_ ?_; rotate_left; (focus (intro w1 hC hI; have hI : Row w1 (w.heap.size + 1 + 1) 0 (wcells wk) := hI; have c1 := hI.cell0 (i := k - 16) (wcells_get (by have := HL.out; rw [wcells_length] at this; omega)); have c2 := hI.cell0 (i := k - 7) (wcells_get (by have := HL.out; rw [wcells_length] at this; omega)); (go_simp; (try go_ints); (try simp only [IntWalk.iteOmega]); (try go_simp); try with_reducible rfl))); (intro S' hS'; simp only [Act.put, List.setIfInBounds_toArray, List.set_cons_zero, List.set_cons_succ] at hS'; subst hS'))
          -- 16 74:binOp
          (refine Lin.walk_pure ?_ (by kernel_rfl) (by kernel_rfl) (by rfl) ?_ ?_; rotate_left; (focus (intro w; (go_simp; (try go_ints); (try simp only [IntWalk.iteOmega]); (try go_simp); try with_reducible rfl))); (intro S' hS'; simp only [Act.put, List.setIfInBounds_toArray, List.set_cons_zero, List.set_cons_succ] at hS'; subst hS'))
          -- 17 75:move
          (refine Lin.walk_pure ?_ (by kernel_rfl) (by kernel_rfl) (by rfl) ?_ ?_; rotate_left; (focus (intro w; (go_simp; (try go_ints); (try simp only [IntWalk.iteOmega]); (try go_simp); try with_reducible rfl))); (intro S' hS'; simp only [Act.put, List.setIfInBounds_toArray, List.set_cons_zero, List.set_cons_succ] at hS'; subst hS'))
          -- 18 76:buildSlice
          (refine Lin.walk_fact [] 76 (NumsAt (w.heap.size + 1 + 1 + 1) [17, 19]) rfl (by kernel_rfl) (by kernel_rfl) (by kernel_rfl) (by kernel_rfl) (by kernel_rfl) (by kernel_rfl) (fun _ => by rfl) (fun v w1 w2 h hc => h.keep hc (fun j e => by omega)) ?_ ?_; (focus (intro f w1 hF hC hI; dsimp only at hC hI; have hI : Row w1 (w.heap.size + 1 + 1) 0 (wcells wk) := hI; have hz := hI.lt (by have := HL.out; omega); clear hF; simp only [Lin.over_nil]; go_simp; exact ⟨NumsAt.new _ _ _ _ (by omega) _ rfl _ rfl, (Chgd.refl _ _).alloc _, hI.alloc _⟩)); (intro S' hS'; simp only [Act.put, List.setIfInBounds_toArray, List.set_cons_zero, List.set_cons_succ] at hS'; subst hS'))
          -- 19 77:call!
          (refine Lin.walk_soft [76] (.int .u32 (wn (turns y [17, 19]))) (by kernel_rfl) (by kernel_rfl) (by kernel_rfl) (fun _ => by rfl) ?_ ?_; (focus (intro f w1 hF hC hI; dsimp only at hC hI; obtain ⟨v, hv, B, rfl, hB, hN⟩ : ∃ v, [f 76] = [v] ∧ NumsAt (w.heap.size + 1 + 1 + 1) [17, 19] v w1 := hF 18 (by decide) (by kernel_rfl); have h64 := List.singleton_inj.1 hv; clear hF hv; simp only [Lin.over, List.foldl, Act.put, List.setIfInBounds_toArray, List.set_cons_zero, List.set_cons_succ, h64]; go_simp; exact Calls.mono (turned_any y [17, 19] (by decide) (by decide) B _ hN) (by rintro e w2 ⟨rfl, rfl⟩; exact ⟨_, rfl, rfl, Chgd.refl _ _, hI⟩))); (intro S' hS'; simp only [Act.put, List.setIfInBounds_toArray, List.set_cons_zero, List.set_cons_succ] at hS'; subst hS'))
          -- 20 78:move
          (refine Lin.walk_pure ?_ (by kernel_rfl) (by kernel_rfl) (by rfl) ?_ ?_; rotate_left; (focus (intro w; (go_simp; (try go_ints); (try simp only [IntWalk.iteOmega]); (try go_simp); try with_reducible rfl))); (intro S' hS'; simp only [Act.put, List.setIfInBounds_toArray, List.set_cons_zero, List.set_cons_succ] at hS'; subst hS'))
          -- 21 79:binOp
          (refine Lin.walk_pure ?_ (by kernel_rfl) (by kernel_rfl) (by rfl) ?_ ?_; rotate_left; (focus (intro w; (go_simp; (try go_ints); (try simp only [IntWalk.iteOmega]); (try go_simp); try with_reducible rfl))); (intro S' hS'; simp only [Act.put, List.setIfInBounds_toArray, List.set_cons_zero, List.set_cons_succ] at hS'; subst hS'))
          -- 22 80:binOp
          (refine Lin.walk_pure ?_ (by kernel_rfl) (by kernel_rfl) (by rfl) ?_ ?_; rotate_left; (focus (intro w; (go_simp; (try go_ints); (try simp only [IntWalk.iteOmega]); (try go_simp); try with_reducible rfl))); (intro S' hS'; simp only [Act.put, List.setIfInBounds_toArray, List.set_cons_zero, List.set_cons_succ] at hS'; subst hS'))
          -- 23 81:binOp
          (refine Lin.walk_pure ?_ (by kernel_rfl) (by kernel_rfl) (by rfl) ?_ ?_; rotate_left; (focus (intro w; (go_simp; (try go_ints); (try simp only [IntWalk.iteOmega]); (try go_simp); try with_reducible rfl))); (intro S' hS'; simp only [Act.put, List.setIfInBounds_toArray, List.set_cons_zero, List.set_cons_succ] at hS'; subst hS'))
          -- 24 82:indexAddr
          (refine Lin.walk_pure ?_ (by kernel_rfl) (by kernel_rfl) (by rfl) ?_ ?_; rotate_left; (focus (intro w; (go_simp; (try go_ints); (try simp only [IntWalk.iteOmega]); (try go_simp); try with_reducible rfl))); (intro S' hS'; simp only [Act.put, List.setIfInBounds_toArray, List.set_cons_zero, List.set_cons_succ] at hS'; subst hS'))
          -- 25 -:store
          (refine Lin.walk_last [] undef (by kernel_rfl) rfl (by kernel_rfl) (fun _ => by rfl) ?_ ?_; (focus (intro f w1 hF hC hI; dsimp only at hC hI; clear hF; have hI : Row w1 (w.heap.size + 1 + 1) 0 (wcells wk) := hI; have hl := HL.out; have c1 := hI.free0 (i := k) (by omega); have c2 := hI.cell0 (i := k) (wcells_get (by rw [wcells_length] at hl; omega)); simp only [Lin.over_nil]; go_simp; refine ⟨rfl, Chgd.one _ _ _ _, ?_⟩; show Row _ _ 0 (wcells (sched ws (k + 1))); rw [sched_succ ws k hk16, ← HK.out, ← HXY.out.1, ← HXY.out.2, ← wcells_set]; exact Row.set0 (i := k) (cs := wcells wk) hI (by omega) _)); (intro S' hS'; simp only [Act.put] at hS'; subst hS'))
          (refine Lin.walk_end1 [64, 76] (by kernel_rfl) ?_; intro f W' hF hC hI; dsimp only at hC hI; clear hF; intro S' hS'; simp only [Lin.over, List.foldl, Act.put, List.setIfInBounds_toArray, List.set_cons_zero, List.set_cons_succ] at hS'; subst hS')
          clear hwa hwx h3 h10
          go_wp2
          go_roundw
          case rel => exact ⟨k + 1, by omega, by omega, by go_num, hI, C2.trans hC (fun _ _ h => h)⟩
          case measure => simp [intOf]; omega
        · obtain rfl : k = 64 := by omega
          have C3 := C1'.trans C2 (fun j hj e => by omega)
          have hz3 := C3.size
          have B2'' := B2'.keep C2 (fun e => by omega)
          have B4'' := B4'.keep C2 (fun e => by omega)
          have hl8 : (wcells h).length = 8 := by rw [wcells_length]; exact hh
          have Hl8 := Lib.hid hl8
          have hz4 := B2''.lt (by rw [wcells_length, hh]; omega)
          have hz5 := B4''.lt (by simp)
          clear B2' B4' C1' C2 hh hl8 hk16 hk hlt B6'
          obtain ⟨ws2, hws2⟩ : ∃ ws2, ws2 = sched ws 64 := ⟨_, rfl⟩
          rw [← hws2] at B6''
          have hl2 : Hid ((wcells ws2).length = 64) := Lib.hid (by rw [hws2, wcells_length, sched_length]; exact hl64.out)
          have HW2 := Lib.hid hws2
          clear hws2
          obtain ⟨av, hav⟩ : ∃ av, av = (wcells ws2).toArray := ⟨_, rfl⟩
          have HAV := Lib.hid hav
          obtain ⟨hv2, hhv2⟩ : ∃ hv2, hv2 = (wcells h).toArray := ⟨_, rfl⟩
          have HV2 := Lib.hid hhv2
          go_wp2_with (first
            | (refine wpList_loadRow rfl 37 (.tmp 2) rfl w.heap.size 0 rfl (wcells h) B2'' _ Tryd.underlying37 rfl 8 size8 Hl8.out ?_; rw [← hhv2]; clear hhv2)
            | (refine wpList_storeRow rfl 37 (.tmp 12) (.tmp 83) rfl _ 0 _ (wcells h) rfl (by show Value.agg hv2 = _; rw [HV2.out]) (Row.new _ _ _) 8 size8 rfl Hl8.out (wcells_one h) ?_; intro w4 B12 _ _ c4; have c5 := ((Chgd.refl (fun _ => False) wr).alloc _).trans c4 (fun j hj e => by omega); clear c4; replace C3 := C3.trans c5 (fun j _ hj => hj); replace B2'' := B2''.keep c5 (fun h => h); replace B4'' := B4''.keep c5 (fun h => h); replace B6'' := B6''.keep c5 (fun h => h); clear c5)
            | (refine wpList_loadRow rfl 55 (.tmp 6) rfl (w.heap.size + 1 + 1) 0 rfl (wcells ws2) B6'' _ Tryd.underlying55 rfl 64 size64 hl2.out ?_; rw [← hav]; clear hav))
          obtain ⟨w3, rfl⟩ : ∃ x : World, x = wr := ⟨_, rfl⟩
          go_loopw [85] (fun i wx => ∃ k : Nat, ∃ v : List Word, k ≤ 64 ∧ i = .int .i64 k ∧ v = rounds h ws2 k ∧ v.length = 8 ∧ Row wx w3.heap.size 0 (wcells v) ∧ Chgd (fun j => j = w3.heap.size) w4 wx) (fun i _ => 64 - (intOf i).toNat)
          case atStart => exact ⟨0, h, Nat.zero_le _, rfl, rfl, by have := Hl8.out; rwa [wcells_length] at this, B12, Chgd.refl _ _⟩
          case round =>
            obtain ⟨k, v, hk, rfl, hv', hvl, B12', C4⟩ := hrel
            by_cases hlt : k < 64
            ·
              have hnk : Hid (av[k]? = some (.int .u32 (wn (wat ws2 k)))) := Lib.hid (by rw [HAV.out]; have := hl2.out; rw [wcells_length] at this; simpa using wcells_get (l := ws2) (i := k) (by omega))
              have HV3 := Lib.hid hv'
              have HVL := Lib.hid hvl
              have hkg := HKT.out.lt
              have hws := C3.size
              have HKX := Lib.hid ((HKT.out.keep C3 (fun h => h)).keep C4 (fun e => by omega))
              clear hv' hvl
              obtain ⟨n, hn⟩ : ∃ n, n = wat ws2 k := ⟨_, rfl⟩
              rw [← hn] at hnk
              have HN := Lib.hid hn
              clear hn
              go_wp2_with (refine wpList_indexRow rfl 55 (.tmp 84) (.tmp 85) rfl av rfl k rfl 36 64 (.int .u32 (wn n)) Tryd.underlying55 Tryd.underlying36 (by kernel_rfl) hlt hnk.out ?_)
              refine Lin.region_lin [0, 1, 0, 4, 3, 31] [] [] (fun _ => False) (fun _ w' => Row w' w3.heap.size 0 (wcells v) ∧ KTab w') _ (by kernel_rfl) rfl (by kernel_rfl) (⟨B12'.drew, HKX.out.keep (Chgd.refl (fun _ => False) _).drew (fun h => h)⟩) ?_
              -- 0 89:indexAddr
              (refine Lin.walk_pure ?_ (by kernel_rfl) (by kernel_rfl) (by rfl) ?_ ?_; rotate_left; (focus (intro w; (go_simp; (try go_ints); (try simp only [IntWalk.iteOmega]); (try go_simp); try with_reducible rfl))); (intro S' hS'; simp only [Act.put, List.setIfInBounds_toArray, List.set_cons_zero, List.set_cons_succ] at hS'; subst hS'))
              -- 1 90:load
              (refine Lin.walk_read ?_ (by kernel_rfl) (by kernel_rfl) (by kernel_rfl) (by rfl) ?_ ?_; rotate_left; (focus (intro w1 hC hI; have c0 := hI.1.cell0 (i := 0) (wcells_get (by have := HVL.out; omega)); have c4 := hI.1.cell0 (i := 4) (wcells_get (by have := HVL.out; omega)); (go_simp; (try go_ints); (try simp only [IntWalk.iteOmega]); (try go_simp); try with_reducible rfl))); (intro S' hS'; simp only [Act.put, List.setIfInBounds_toArray, List.set_cons_zero, List.set_cons_succ] at hS'; subst hS'))
              -- 2 91:indexAddr
              (refine Lin.walk_pure ?_ (by kernel_rfl) (by kernel_rfl) (by rfl) ?_ ?_; rotate_left; (focus (intro w; (go_simp; (try go_ints); (try simp only [IntWalk.iteOmega]); (try go_simp); try with_reducible rfl))); (intro S' hS'; simp only [Act.put, List.setIfInBounds_toArray, List.set_cons_zero, List.set_cons_succ] at hS'; subst hS'))
              -- 3 92:load
              (refine Lin.walk_read ?_ (by kernel_rfl) (by kernel_rfl) (by kernel_rfl) (by rfl) ?_ ?_; rotate_left; (focus (intro w1 hC hI; have c0 := hI.1.cell0 (i := 0) (wcells_get (by have := HVL.out; omega)); have c4 := hI.1.cell0 (i := 4) (wcells_get (by have := HVL.out; omega)); (go_simp; (try go_ints); (try simp only [IntWalk.iteOmega]); (try go_simp); try with_reducible rfl))); (intro S' hS'; simp only [Act.put, List.setIfInBounds_toArray, List.set_cons_zero, List.set_cons_succ] at hS'; subst hS'))
              -- 4 15:assign
              (refine Lin.walk_pure ?_ (by kernel_rfl) (by kernel_rfl) (by rfl) ?_ ?_; rotate_left; (focus (intro w; (go_simp; (try go_ints); (try simp only [IntWalk.iteOmega]); (try go_simp); try with_reducible rfl))); (intro S' hS'; simp only [Act.put, List.setIfInBounds_toArray, List.set_cons_zero, List.set_cons_succ] at hS'; subst hS'))
              -- 5 16:assign
              (refine Lin.walk_pure ?_ (by kernel_rfl) (by kernel_rfl) (by rfl) ?_ ?_; rotate_left; (focus (intro w; (go_simp; (try go_ints); (try simp only [IntWalk.iteOmega]); (try go_simp); try with_reducible rfl))); (intro S' hS'; simp only [Act.put, List.setIfInBounds_toArray, List.set_cons_zero, List.set_cons_succ] at hS'; subst hS'))
              (refine Lin.walk_end0 rfl ?_; intro W' hC hI; dsimp only at hC hI)
              clear B12' HKX
              replace C4 := C4.trans hC (fun _ _ h => h.elim)
              obtain ⟨B12', HKX⟩ := hI
              clear hC
              obtain ⟨x, hx⟩ : ∃ x, x = wat v 0 := ⟨_, rfl⟩
              obtain ⟨e, he⟩ : ∃ e, e = wat v 4 := ⟨_, rfl⟩
              rw [← hx, ← he]
              have HXE := Lib.hid (⟨hx, he⟩ : _ ∧ _)
              clear hx he
              go_wp2
              have hwa := w_add
              have hwx := w_xor
              have hwn := w_and
              have hwo := w_or
              generalize W' = wx at *
              refine Lin.region_lin [0, 1, 0, 0, 12, 31, 0, 64, 0, 0, 512, 0, 2048, 7680, 16128, 32704, 65535, 0, 131072, 393216, 1048575, 0, 4194303, 8388607] [3] [] (fun _ => False) (fun _ w' => Row w' w3.heap.size 0 (wcells v) ∧ KTab w') _ (by kernel_rfl) rfl (by kernel_rfl) (⟨B12'.drew, HKX.keep (Chgd.refl (fun _ => False) _).drew (fun h => h)⟩) ?_
              -- 0 93:indexAddr
              (refine Lin.walk_pure ?_ (by kernel_rfl) (by kernel_rfl) (by rfl) ?_ ?_; rotate_left; (focus (intro w; (go_simp; (try go_ints); (try simp only [IntWalk.iteOmega]); (try go_simp); try with_reducible rfl))); (intro S' hS'; simp only [Act.put, List.setIfInBounds_toArray, List.set_cons_zero, List.set_cons_succ] at hS'; subst hS'))
              -- 1 94:load
              (refine Lin.walk_read ?_ (by kernel_rfl) (by kernel_rfl) (by kernel_rfl) (by rfl) ?_ ?_; rotate_left; (focus (intro w1 hC hI; have c5 := hI.1.cell0 (i := 5) (wcells_get (by have := HVL.out; omega)); have c6 := hI.1.cell0 (i := 6) (wcells_get (by have := HVL.out; omega)); have c7 := hI.1.cell0 (i := 7) (wcells_get (by have := HVL.out; omega)); have ck := hI.2 k hlt; (go_simp; (try go_ints); (try simp only [IntWalk.iteOmega]); (try go_simp); try with_reducible rfl))); (intro S' hS'; simp only [Act.put, List.setIfInBounds_toArray, List.set_cons_zero, List.set_cons_succ] at hS'; subst hS'))
              -- 2 95:move
              (refine Lin.walk_pure ?_ (by kernel_rfl) (by kernel_rfl) (by rfl) ?_ ?_; rotate_left; (focus (intro w; (go_simp; (try go_ints); (try simp only [IntWalk.iteOmega]); (try go_simp); try with_reducible rfl))); (intro S' hS'; simp only [Act.put, List.setIfInBounds_toArray, List.set_cons_zero, List.set_cons_succ] at hS'; subst hS'))
              -- 3 96:buildSlice
              (refine Lin.walk_fact [] 96 (NumsAt wx.heap.size [6, 11, 25]) rfl (by kernel_rfl) (by kernel_rfl) (by kernel_rfl) (by kernel_rfl) (by kernel_rfl) (by kernel_rfl) (fun _ => by rfl) (fun v w1 w2 h hc => h.keep hc (fun j e => e.elim)) ?_ ?_; (focus (intro f w1 hF hC hI; dsimp only at hC hI; clear hF; simp only [Lin.over_nil]; go_simp; exact ⟨NumsAt.new _ _ _ _ hC.size _ rfl _ rfl, (Chgd.refl _ _).alloc _, hI.1.alloc _, hI.2.keep ((Chgd.refl (fun _ => False) _).alloc _) (fun h => h)⟩)); (intro S' hS'; simp only [Act.put, List.setIfInBounds_toArray, List.set_cons_zero, List.set_cons_succ] at hS'; subst hS'))
              -- 4 97:call!
              (refine Lin.walk_soft [96] (.int .u32 (wn (turns e [6, 11, 25]))) (by kernel_rfl) (by kernel_rfl) (by kernel_rfl) (fun _ => by rfl) ?_ ?_; (focus (intro f w1 hF hC hI; dsimp only at hC hI; obtain ⟨v', hv', B, rfl, hB, hN⟩ : ∃ v, [f 96] = [v] ∧ NumsAt wx.heap.size [6, 11, 25] v w1 := hF 3 (by decide) (by kernel_rfl); have h64 := List.singleton_inj.1 hv'; clear hF hv'; simp only [Lin.over, List.foldl, Act.put, List.setIfInBounds_toArray, List.set_cons_zero, List.set_cons_succ, h64]; go_simp; exact Calls.mono (turned_any e [6, 11, 25] (by decide) (by decide) B _ hN) (by rintro e' w2 ⟨rfl, rfl⟩; exact ⟨_, rfl, rfl, Chgd.refl _ _, hI⟩))); (intro S' hS'; simp only [Act.put, List.setIfInBounds_toArray, List.set_cons_zero, List.set_cons_succ] at hS'; subst hS'))
              -- 5 98:binOp
              (refine Lin.walk_pure ?_ (by kernel_rfl) (by kernel_rfl) (by rfl) ?_ ?_; rotate_left; (focus (intro w; (go_simp; (try go_ints); (try simp only [IntWalk.iteOmega]); (try go_simp); try with_reducible rfl))); (intro S' hS'; simp only [Act.put, List.setIfInBounds_toArray, List.set_cons_zero, List.set_cons_succ] at hS'; subst hS'))
              -- 6 99:indexAddr
              (refine Lin.walk_pure ?_ (by kernel_rfl) (by kernel_rfl) (by rfl) ?_ ?_; rotate_left; (focus (intro w; (go_simp; (try go_ints); (try simp only [IntWalk.iteOmega]); (try go_simp); try with_reducible rfl))); (intro S' hS'; simp only [Act.put, List.setIfInBounds_toArray, List.set_cons_zero, List.set_cons_succ] at hS'; subst hS'))
              -- 7 100:load
              (refine Lin.walk_read ?_ (by kernel_rfl) (by kernel_rfl) (by kernel_rfl) (by rfl) ?_ ?_; rotate_left; (focus (intro w1 hC hI; have c5 := hI.1.cell0 (i := 5) (wcells_get (by have := HVL.out; omega)); have c6 := hI.1.cell0 (i := 6) (wcells_get (by have := HVL.out; omega)); have c7 := hI.1.cell0 (i := 7) (wcells_get (by have := HVL.out; omega)); have ck := hI.2 k hlt; (go_simp; (try go_ints); (try simp only [IntWalk.iteOmega]); (try go_simp); try with_reducible rfl))); (intro S' hS'; simp only [Act.put, List.setIfInBounds_toArray, List.set_cons_zero, List.set_cons_succ] at hS'; subst hS'))
              -- 8 101:move
              (refine Lin.walk_pure ?_ (by kernel_rfl) (by kernel_rfl) (by rfl) ?_ ?_; rotate_left; (focus (intro w; (go_simp; (try go_ints); (try simp only [IntWalk.iteOmega]); (try go_simp); try with_reducible rfl))); (intro S' hS'; simp only [Act.put, List.setIfInBounds_toArray, List.set_cons_zero, List.set_cons_succ] at hS'; subst hS'))
              -- 9 102:indexAddr
              (refine Lin.walk_pure ?_ (by kernel_rfl) (by kernel_rfl) (by rfl) ?_ ?_; rotate_left; (focus (intro w; (go_simp; (try go_ints); (try simp only [IntWalk.iteOmega]); (try go_simp); try with_reducible rfl))); (intro S' hS'; simp only [Act.put, List.setIfInBounds_toArray, List.set_cons_zero, List.set_cons_succ] at hS'; subst hS'))
              -- 10 103:load
              (refine Lin.walk_read ?_ (by kernel_rfl) (by kernel_rfl) (by kernel_rfl) (by rfl) ?_ ?_; rotate_left; (focus (intro w1 hC hI; have c5 := hI.1.cell0 (i := 5) (wcells_get (by have := HVL.out; omega)); have c6 := hI.1.cell0 (i := 6) (wcells_get (by have := HVL.out; omega)); have c7 := hI.1.cell0 (i := 7) (wcells_get (by have := HVL.out; omega)); have ck := hI.2 k hlt; (go_simp; (try go_ints); (try simp only [IntWalk.iteOmega]); (try go_simp); try with_reducible rfl))); (intro S' hS'; simp only [Act.put, List.setIfInBounds_toArray, List.set_cons_zero, List.set_cons_succ] at hS'; subst hS'))
              -- 11 104:indexAddr
              (refine Lin.walk_pure ?_ (by kernel_rfl) (by kernel_rfl) (by rfl) ?_ ?_; rotate_left; (focus (intro w; (go_simp; (try go_ints); (try simp only [IntWalk.iteOmega]); (try go_simp); try with_reducible rfl))); (intro S' hS'; simp only [Act.put, List.setIfInBounds_toArray, List.set_cons_zero, List.set_cons_succ] at hS'; subst hS'))
              -- 12 105:load
              (refine Lin.walk_read ?_ (by kernel_rfl) (by kernel_rfl) (by kernel_rfl) (by rfl) ?_ ?_; rotate_left; (focus (intro w1 hC hI; have c5 := hI.1.cell0 (i := 5) (wcells_get (by have := HVL.out; omega)); have c6 := hI.1.cell0 (i := 6) (wcells_get (by have := HVL.out; omega)); have c7 := hI.1.cell0 (i := 7) (wcells_get (by have := HVL.out; omega)); have ck := hI.2 k hlt; (go_simp; (try go_ints); (try simp only [IntWalk.iteOmega]); (try go_simp); try with_reducible rfl))); (intro S' hS'; simp only [Act.put, List.setIfInBounds_toArray, List.set_cons_zero, List.set_cons_succ] at hS'; subst hS'))
              -- 13 106:binOp
              (refine Lin.walk_pure ?_ (by kernel_rfl) (by kernel_rfl) (by rfl) ?_ ?_; rotate_left; (focus (intro w; (go_simp; (try go_ints); (try simp only [IntWalk.iteOmega]); (try go_simp); try with_reducible rfl))); (intro S' hS'; simp only [Act.put, List.setIfInBounds_toArray, List.set_cons_zero, List.set_cons_succ] at hS'; subst hS'))
              -- 14 107:binOp
              (refine Lin.walk_pure ?_ (by kernel_rfl) (by kernel_rfl) (by rfl) ?_ ?_; rotate_left; (focus (intro w; (go_simp; (try go_ints); (try simp only [IntWalk.iteOmega]); (try go_simp); try with_reducible rfl))); (intro S' hS'; simp only [Act.put, List.setIfInBounds_toArray, List.set_cons_zero, List.set_cons_succ] at hS'; subst hS'))
              -- 15 108:binOp
              (refine Lin.walk_pure ?_ (by kernel_rfl) (by kernel_rfl) (by rfl) ?_ ?_; rotate_left; (focus (intro w; (go_simp; (try go_ints); (try simp only [IntWalk.iteOmega]); (try go_simp); try with_reducible rfl))); (intro S' hS'; simp only [Act.put, List.setIfInBounds_toArray, List.set_cons_zero, List.set_cons_succ] at hS'; subst hS'))
              -- 16 109:binOp
              (refine Lin.walk_pure ?_ (by kernel_rfl) (by kernel_rfl) (by rfl) ?_ ?_; rotate_left; (focus (intro w; (go_simp; (try go_ints); (try simp only [IntWalk.iteOmega]); (try go_simp); try with_reducible rfl))); (intro S' hS'; simp only [Act.put, List.setIfInBounds_toArray, List.set_cons_zero, List.set_cons_succ] at hS'; subst hS'))
              -- 17 110:move
              (refine Lin.walk_pure ?_ (by kernel_rfl) (by kernel_rfl) (by rfl) ?_ ?_; rotate_left; (focus (intro w; (go_simp; (try go_ints); (try simp only [IntWalk.iteOmega]); (try go_simp); try with_reducible rfl))); (intro S' hS'; simp only [Act.put, List.setIfInBounds_toArray, List.set_cons_zero, List.set_cons_succ] at hS'; subst hS'))
              -- 18 111:indexAddr
              (refine Lin.walk_pure ?_ (by kernel_rfl) (by kernel_rfl) (by rfl) ?_ ?_; rotate_left; (focus (intro w; (go_simp; (try go_ints); (try simp only [IntWalk.iteOmega]); (try go_simp); try with_reducible rfl))); (intro S' hS'; simp only [Act.put, List.setIfInBounds_toArray, List.set_cons_zero, List.set_cons_succ] at hS'; subst hS'))
              -- 19 112:load
              (refine Lin.walk_read ?_ (by kernel_rfl) (by kernel_rfl) (by kernel_rfl) (by rfl) ?_ ?_; rotate_left; (focus (intro w1 hC hI; have c5 := hI.1.cell0 (i := 5) (wcells_get (by have := HVL.out; omega)); have c6 := hI.1.cell0 (i := 6) (wcells_get (by have := HVL.out; omega)); have c7 := hI.1.cell0 (i := 7) (wcells_get (by have := HVL.out; omega)); have ck := hI.2 k hlt; (go_simp; (try go_ints); (try simp only [IntWalk.iteOmega]); (try go_simp); try with_reducible rfl))); (intro S' hS'; simp only [Act.put, List.setIfInBounds_toArray, List.set_cons_zero, List.set_cons_succ] at hS'; subst hS'))
              -- 20 113:binOp
              (refine Lin.walk_pure ?_ (by kernel_rfl) (by kernel_rfl) (by rfl) ?_ ?_; rotate_left; (focus (intro w; (go_simp; (try go_ints); (try simp only [IntWalk.iteOmega]); (try go_simp); try with_reducible rfl))); (intro S' hS'; simp only [Act.put, List.setIfInBounds_toArray, List.set_cons_zero, List.set_cons_succ] at hS'; subst hS'))
              -- 21 114:move
              (refine Lin.walk_pure ?_ (by kernel_rfl) (by kernel_rfl) (by rfl) ?_ ?_; rotate_left; (focus (intro w; (go_simp; (try go_ints); (try simp only [IntWalk.iteOmega]); (try go_simp); try with_reducible rfl))); (intro S' hS'; simp only [Act.put, List.setIfInBounds_toArray, List.set_cons_zero, List.set_cons_succ] at hS'; subst hS'))
              -- 22 115:binOp
              (refine Lin.walk_pure ?_ (by kernel_rfl) (by kernel_rfl) (by rfl) ?_ ?_; rotate_left; (focus (intro w; (go_simp; (try go_ints); (try simp only [IntWalk.iteOmega]); (try go_simp); try with_reducible rfl))); (intro S' hS'; simp only [Act.put, List.setIfInBounds_toArray, List.set_cons_zero, List.set_cons_succ] at hS'; subst hS'))
              -- 23 17:assign
              (refine Lin.walk_pure ?_ (by kernel_rfl) (by kernel_rfl) (by rfl) ?_ ?_; rotate_left; (focus (intro w; (go_simp; (try go_ints); (try simp only [IntWalk.iteOmega]); (try go_simp); try with_reducible rfl))); (intro S' hS'; simp only [Act.put, List.setIfInBounds_toArray, List.set_cons_zero, List.set_cons_succ] at hS'; subst hS'))
              (refine Lin.walk_end1 [96] (by kernel_rfl) ?_; intro f W' hF hC hI; dsimp only at hC hI; clear hF; intro S' hS'; simp only [Lin.over, List.foldl, Act.put, List.setIfInBounds_toArray, List.set_cons_zero, List.set_cons_succ] at hS'; subst hS')
              replace C4 := C4.trans hC (fun _ _ h => h.elim)
              clear B12' HKX
              obtain ⟨B12', HKX⟩ := hI
              clear hC
              obtain ⟨t1, ht1⟩ : ∃ t1, t1 = wat v 7 + turns e [6, 11, 25] + (wat v 6 ^^^ e &&& (wat v 5 ^^^ wat v 6)) + wat kTab k + n := ⟨_, rfl⟩
              rw [← ht1]
              have HT1 := Lib.hid ht1
              clear ht1
              have HA := Lib.hid (⟨hwa, hwx, hwn, hwo⟩ : _ ∧ _ ∧ _ ∧ _)
              clear hwa hwx hwn hwo
              generalize W' = wx at *
              go_wp2
              obtain ⟨hwa, hwx, hwn, hwo⟩ := HA.out
              refine Lin.region_lin [0, 0, 3, 0, 0, 16, 56, 0, 128, 0, 0, 1024, 3584, 8064, 16376, 32767, 65535] [1] [] (fun _ => False) (fun _ w' => Row w' w3.heap.size 0 (wcells v) ∧ KTab w') _ (by kernel_rfl) rfl (by kernel_rfl) (⟨B12'.drew, HKX.keep (Chgd.refl (fun _ => False) _).drew (fun h => h)⟩) ?_
              -- 0 116:move
              (refine Lin.walk_pure ?_ (by kernel_rfl) (by kernel_rfl) (by rfl) ?_ ?_; rotate_left; (focus (intro w; (go_simp; (try go_ints); (try simp only [IntWalk.iteOmega]); (try go_simp); try with_reducible rfl))); (intro S' hS'; simp only [Act.put, List.setIfInBounds_toArray, List.set_cons_zero, List.set_cons_succ] at hS'; subst hS'))
              -- 1 117:buildSlice
              (refine Lin.walk_fact [] 117 (NumsAt wx.heap.size [2, 13, 22]) rfl (by kernel_rfl) (by kernel_rfl) (by kernel_rfl) (by kernel_rfl) (by kernel_rfl) (by kernel_rfl) (fun _ => by rfl) (fun v w1 w2 h hc => h.keep hc (fun j e => e.elim)) ?_ ?_; (focus (intro f w1 hF hC hI; dsimp only at hC hI; clear hF; simp only [Lin.over_nil]; go_simp; exact ⟨NumsAt.new _ _ _ _ hC.size _ rfl _ rfl, (Chgd.refl _ _).alloc _, hI.1.alloc _, hI.2.keep ((Chgd.refl (fun _ => False) _).alloc _) (fun h => h)⟩)); (intro S' hS'; simp only [Act.put, List.setIfInBounds_toArray, List.set_cons_zero, List.set_cons_succ] at hS'; subst hS'))
              -- 2 118:call!
              (refine Lin.walk_soft [117] (.int .u32 (wn (turns x [2, 13, 22]))) (by kernel_rfl) (by kernel_rfl) (by kernel_rfl) (fun _ => by rfl) ?_ ?_; (focus (intro f w1 hF hC hI; dsimp only at hC hI; obtain ⟨v', hv', B, rfl, hB, hN⟩ : ∃ v, [f 117] = [v] ∧ NumsAt wx.heap.size [2, 13, 22] v w1 := hF 1 (by decide) (by kernel_rfl); have h64 := List.singleton_inj.1 hv'; clear hF hv'; simp only [Lin.over, List.foldl, Act.put, List.setIfInBounds_toArray, List.set_cons_zero, List.set_cons_succ, h64]; go_simp; exact Calls.mono (turned_any x [2, 13, 22] (by decide) (by decide) B _ hN) (by rintro e' w2 ⟨rfl, rfl⟩; exact ⟨_, rfl, rfl, Chgd.refl _ _, hI⟩))); (intro S' hS'; simp only [Act.put, List.setIfInBounds_toArray, List.set_cons_zero, List.set_cons_succ] at hS'; subst hS'))
              -- 3 119:move
              (refine Lin.walk_pure ?_ (by kernel_rfl) (by kernel_rfl) (by rfl) ?_ ?_; rotate_left; (focus (intro w; (go_simp; (try go_ints); (try simp only [IntWalk.iteOmega]); (try go_simp); try with_reducible rfl))); (intro S' hS'; simp only [Act.put, List.setIfInBounds_toArray, List.set_cons_zero, List.set_cons_succ] at hS'; subst hS'))
              -- 4 120:indexAddr
              (refine Lin.walk_pure ?_ (by kernel_rfl) (by kernel_rfl) (by rfl) ?_ ?_; rotate_left; (focus (intro w; (go_simp; (try go_ints); (try simp only [IntWalk.iteOmega]); (try go_simp); try with_reducible rfl))); (intro S' hS'; simp only [Act.put, List.setIfInBounds_toArray, List.set_cons_zero, List.set_cons_succ] at hS'; subst hS'))
              -- 5 121:load
              (refine Lin.walk_read ?_ (by kernel_rfl) (by kernel_rfl) (by kernel_rfl) (by rfl) ?_ ?_; rotate_left; (focus (intro w1 hC hI; have c1 := hI.1.cell0 (i := 1) (wcells_get (by have := HVL.out; omega)); have c2 := hI.1.cell0 (i := 2) (wcells_get (by have := HVL.out; omega)); (go_simp; (try go_ints); (try simp only [IntWalk.iteOmega]); (try go_simp); try with_reducible rfl))); (intro S' hS'; simp only [Act.put, List.setIfInBounds_toArray, List.set_cons_zero, List.set_cons_succ] at hS'; subst hS'))
              -- 6 122:binOp
              (refine Lin.walk_pure ?_ (by kernel_rfl) (by kernel_rfl) (by rfl) ?_ ?_; rotate_left; (focus (intro w; (go_simp; (try go_ints); (try simp only [IntWalk.iteOmega]); (try go_simp); try with_reducible rfl))); (intro S' hS'; simp only [Act.put, List.setIfInBounds_toArray, List.set_cons_zero, List.set_cons_succ] at hS'; subst hS'))
              -- 7 123:indexAddr
              (refine Lin.walk_pure ?_ (by kernel_rfl) (by kernel_rfl) (by rfl) ?_ ?_; rotate_left; (focus (intro w; (go_simp; (try go_ints); (try simp only [IntWalk.iteOmega]); (try go_simp); try with_reducible rfl))); (intro S' hS'; simp only [Act.put, List.setIfInBounds_toArray, List.set_cons_zero, List.set_cons_succ] at hS'; subst hS'))
              -- 8 124:load
              (refine Lin.walk_read ?_ (by kernel_rfl) (by kernel_rfl) (by kernel_rfl) (by rfl) ?_ ?_; rotate_left; (focus (intro w1 hC hI; have c1 := hI.1.cell0 (i := 1) (wcells_get (by have := HVL.out; omega)); have c2 := hI.1.cell0 (i := 2) (wcells_get (by have := HVL.out; omega)); (go_simp; (try go_ints); (try simp only [IntWalk.iteOmega]); (try go_simp); try with_reducible rfl))); (intro S' hS'; simp only [Act.put, List.setIfInBounds_toArray, List.set_cons_zero, List.set_cons_succ] at hS'; subst hS'))
              -- 9 125:move
              (refine Lin.walk_pure ?_ (by kernel_rfl) (by kernel_rfl) (by rfl) ?_ ?_; rotate_left; (focus (intro w; (go_simp; (try go_ints); (try simp only [IntWalk.iteOmega]); (try go_simp); try with_reducible rfl))); (intro S' hS'; simp only [Act.put, List.setIfInBounds_toArray, List.set_cons_zero, List.set_cons_succ] at hS'; subst hS'))
              -- 10 126:indexAddr
              (refine Lin.walk_pure ?_ (by kernel_rfl) (by kernel_rfl) (by rfl) ?_ ?_; rotate_left; (focus (intro w; (go_simp; (try go_ints); (try simp only [IntWalk.iteOmega]); (try go_simp); try with_reducible rfl))); (intro S' hS'; simp only [Act.put, List.setIfInBounds_toArray, List.set_cons_zero, List.set_cons_succ] at hS'; subst hS'))
              -- 11 127:load
              (refine Lin.walk_read ?_ (by kernel_rfl) (by kernel_rfl) (by kernel_rfl) (by rfl) ?_ ?_; rotate_left; (focus (intro w1 hC hI; have c1 := hI.1.cell0 (i := 1) (wcells_get (by have := HVL.out; omega)); have c2 := hI.1.cell0 (i := 2) (wcells_get (by have := HVL.out; omega)); (go_simp; (try go_ints); (try simp only [IntWalk.iteOmega]); (try go_simp); try with_reducible rfl))); (intro S' hS'; simp only [Act.put, List.setIfInBounds_toArray, List.set_cons_zero, List.set_cons_succ] at hS'; subst hS'))
              -- 12 128:binOp
              (refine Lin.walk_pure ?_ (by kernel_rfl) (by kernel_rfl) (by rfl) ?_ ?_; rotate_left; (focus (intro w; (go_simp; (try go_ints); (try simp only [IntWalk.iteOmega]); (try go_simp); try with_reducible rfl))); (intro S' hS'; simp only [Act.put, List.setIfInBounds_toArray, List.set_cons_zero, List.set_cons_succ] at hS'; subst hS'))
              -- 13 129:binOp
              (refine Lin.walk_pure ?_ (by kernel_rfl) (by kernel_rfl) (by rfl) ?_ ?_; rotate_left; (focus (intro w; (go_simp; (try go_ints); (try simp only [IntWalk.iteOmega]); (try go_simp); try with_reducible rfl))); (intro S' hS'; simp only [Act.put, List.setIfInBounds_toArray, List.set_cons_zero, List.set_cons_succ] at hS'; subst hS'))
              -- 14 130:binOp
              (refine Lin.walk_pure ?_ (by kernel_rfl) (by kernel_rfl) (by rfl) ?_ ?_; rotate_left; (focus (intro w; (go_simp; (try go_ints); (try simp only [IntWalk.iteOmega]); (try go_simp); try with_reducible rfl))); (intro S' hS'; simp only [Act.put, List.setIfInBounds_toArray, List.set_cons_zero, List.set_cons_succ] at hS'; subst hS'))
              -- 15 131:binOp
              (refine Lin.walk_pure ?_ (by kernel_rfl) (by kernel_rfl) (by rfl) ?_ ?_; rotate_left; (focus (intro w; (go_simp; (try go_ints); (try simp only [IntWalk.iteOmega]); (try go_simp); try with_reducible rfl))); (intro S' hS'; simp only [Act.put, List.setIfInBounds_toArray, List.set_cons_zero, List.set_cons_succ] at hS'; subst hS'))
              -- 16 18:assign
              (refine Lin.walk_pure ?_ (by kernel_rfl) (by kernel_rfl) (by rfl) ?_ ?_; rotate_left; (focus (intro w; (go_simp; (try go_ints); (try simp only [IntWalk.iteOmega]); (try go_simp); try with_reducible rfl))); (intro S' hS'; simp only [Act.put, List.setIfInBounds_toArray, List.set_cons_zero, List.set_cons_succ] at hS'; subst hS'))
              (refine Lin.walk_end1 [117] (by kernel_rfl) ?_; intro f W' hF hC hI; dsimp only at hC hI; clear hF; intro S' hS'; simp only [Lin.over, List.foldl, Act.put, List.setIfInBounds_toArray, List.set_cons_zero, List.set_cons_succ] at hS'; subst hS')
              replace C4 := C4.trans hC (fun _ _ h => h.elim)
              clear B12' HKX
              obtain ⟨B12', HKX⟩ := hI
              clear hC
              obtain ⟨t2, ht2⟩ : ∃ t2, t2 = turns x [2, 13, 22] + (x &&& wat v 1 ||| wat v 2 &&& (x ||| wat v 1)) := ⟨_, rfl⟩
              rw [← ht2]
              have HT2 := Lib.hid ht2
              clear ht2 hwa hwx hwn hwo
              generalize W' = wx at *
              go_wp2
              refine Lin.region_lin [0, 0, 3] [] [2] (fun j => j = w3.heap.size) (fun e w' => Row w' w3.heap.size 0 (wcells (two v (shifted v) e))) _ (by kernel_rfl) rfl (by kernel_rfl) (B12'.drew) ?_
              -- 0 132:slice
              (refine Lin.walk_pure ?_ (by kernel_rfl) (by kernel_rfl) (by rfl) ?_ ?_; rotate_left; (focus (intro w; (go_simp; (try go_ints); (try simp only [IntWalk.iteOmega]); (try go_simp); try with_reducible rfl))); (intro S' hS'; simp only [Act.put, List.setIfInBounds_toArray, List.set_cons_zero, List.set_cons_succ] at hS'; subst hS'))
              -- 1 133:slice
              (refine Lin.walk_pure ?_ (by kernel_rfl) (by kernel_rfl) (by rfl) ?_ ?_; rotate_left; (focus (intro w; (go_simp; (try go_ints); (try simp only [IntWalk.iteOmega]); (try go_simp); try with_reducible rfl))); (intro S' hS'; simp only [Act.put, List.setIfInBounds_toArray, List.set_cons_zero, List.set_cons_succ] at hS'; subst hS'))
              -- 2 134:call:copy
              (refine Lin.walk_last [] (.int .i64 7) (by kernel_rfl) rfl (by kernel_rfl) (fun _ => by rfl) ?_ ?_; (focus (intro f w1 hF hC hI; dsimp only at hC hI; clear hF; have hI : Row w1 w3.heap.size 0 (wcells v) := hI; exact gives_copy (.tmp 132) (.tmp 133) 58 58 rfl 36 Tryd.underlying58 (by kernel_rfl) w3.heap.size 1 7 7 rfl w3.heap.size 0 7 8 rfl (wcells (seven v)) rfl (seven_range HVL.out hI) (seven_there HVL.out hI) (wcells_one _) (fun w' h1 h2 h3 h4 => ⟨rfl, h4, shift_row HVL.out hI h1 h2 h3⟩))); (intro S' hS'; simp only [Act.put, List.setIfInBounds_toArray, List.set_cons_zero, List.set_cons_succ] at hS'; subst hS'))
              (refine Lin.walk_end0 rfl ?_; intro W' hC hI)
              replace C4 := C4.trans hC (fun _ _ h => h)
              have hgw : ¬ (0 = w3.heap.size) := by omega
              replace HKX := HKX.keep hC hgw
              clear B12'
              have B12' : Row W' w3.heap.size 0 (wcells (shifted v)) := hI
              clear hI hC
              have c0 : W'.cell? ⟨w3.heap.size, 0, none⟩ = some (.int .u32 (wn (wat v 0))) := B12'.cell0 (i := 0) rfl
              have c4 : W'.cell? ⟨w3.heap.size, 4, none⟩ = some (.int .u32 (wn (wat v 3))) := B12'.cell0 (i := 4) rfl
              have f0 := B12'.free0 (i := 0) (by simp [wcells, shifted])
              have f4 := B12'.free0 (i := 4) (by simp [wcells, shifted])
              have hwa := w_add
              go_wp2
              go_roundw
              case rel =>
                refine ⟨k + 1, round v (wat kTab k) n, by omega, by go_num, ?_, rfl, ?_, (C4.trans (Chgd.one _ _ _ _) (fun _ _ h => h)).trans (Chgd.one _ _ _ _) (fun _ _ h => h)⟩
                · rw [rounds, ← HV3.out, HN.out]
                · have e2 : round v (wat kTab k) n = ((shifted v).set 0 (t1 + t2)).set 4 (wat v 3 + t1) := by rw [HT1.out, HT2.out, HXE.out.1, HXE.out.2]; rfl
                  rw [e2, ← wcells_set, ← wcells_set]
                  exact (B12'.set0 (i := 0) (by simp [wcells, shifted]) _).set0 (i := 4) (by simp [wcells, shifted]) _
              case measure => simp [intOf]; omega
            · obtain rfl : k = 64 := by omega
              go_wp2
              have C5 := C3.trans C4 (fun j hj e => by omega)
              have B2a := B2''.keep C4 (fun e => by omega)
              have B4a := B4''.keep C4 (fun e => by omega)
              have HVL := Lib.hid hvl
              have HV3 := Lib.hid hv'
              clear B2'' B4'' C3 C4 B6'' B12 hvl hv' hk hlt
              obtain ⟨w5, rfl⟩ : ∃ x : World, x = wr := ⟨_, rfl⟩
              go_loopw [145] (fun i wx => ∃ k : Nat, k ≤ 8 ∧ i = .int .i64 k ∧ Row wx w.heap.size 0 (wcells (sums h v k)) ∧ Chgd (fun j => j = w.heap.size) w5 wx) (fun i _ => 8 - (intOf i).toNat)
              case atStart => exact ⟨0, Nat.zero_le _, rfl, B2a, Chgd.refl _ _⟩
              case round =>
                obtain ⟨k, hk, rfl, B2b, C6⟩ := hrel
                have hne := hz4
                by_cases hlt : k < 8
                · have B12b := B12'.keep C6 (fun e => by omega)
                  have hsl : Hid ((sums h v k).length = 8) := Lib.hid (by rw [sums_length]; have := Hl8.out; rwa [wcells_length] at this)
                  obtain ⟨u, hu⟩ : ∃ u, u = sums h v k := ⟨_, rfl⟩
                  rw [← hu] at B2b hsl
                  have HU := Lib.hid hu
                  clear hu
                  go_wp2
                  have hwa := w_add
                  refine Lin.region_lin [0, 1, 3, 0, 8, 24, 63, 127, 255] [] [8] (fun j => j = w.heap.size) (fun e w' => Row w' w.heap.size 0 (wcells (two u (sums h v (k + 1)) e)) ∧ Row w' w3.heap.size 0 (wcells v)) _ (by kernel_rfl) rfl (by kernel_rfl) (⟨B2b.drew, B12b.drew⟩) ?_
                  -- 0 148:move
                  (refine Lin.walk_pure ?_ (by kernel_rfl) (by kernel_rfl) (by rfl) ?_ ?_; rotate_left; (focus (intro w; (go_simp; (try go_ints); (try simp only [IntWalk.iteOmega]); (try go_simp); try with_reducible rfl))); (intro S' hS'; simp only [Act.put, List.setIfInBounds_toArray, List.set_cons_zero, List.set_cons_succ] at hS'; subst hS'))
                  -- 1 149:indexAddr
                  (refine Lin.walk_pure ?_ (by kernel_rfl) (by kernel_rfl) (by rfl) ?_ ?_; rotate_left; (focus (intro w; (go_simp; (try go_ints); (try simp only [IntWalk.iteOmega]); (try go_simp); try with_reducible rfl))); (intro S' hS'; simp only [Act.put, List.setIfInBounds_toArray, List.set_cons_zero, List.set_cons_succ] at hS'; subst hS'))
                  -- 2 150:load
                  (refine Lin.walk_read ?_ (by kernel_rfl) (by kernel_rfl) (by kernel_rfl) (by rfl) ?_ ?_; rotate_left; (focus (intro w1 hC hI; have h1 : Row w1 w.heap.size 0 (wcells u) := hI.1; have c0 := h1.cell0 (i := k) (wcells_get (by have := hsl.out; omega)); have c1 := hI.2.cell0 (i := k) (wcells_get (by have := HVL.out; omega)); (go_simp; (try go_ints); (try simp only [IntWalk.iteOmega]); (try go_simp); try with_reducible rfl))); (intro S' hS'; simp only [Act.put, List.setIfInBounds_toArray, List.set_cons_zero, List.set_cons_succ] at hS'; subst hS'))
                  -- 3 151:move
                  (refine Lin.walk_pure ?_ (by kernel_rfl) (by kernel_rfl) (by rfl) ?_ ?_; rotate_left; (focus (intro w; (go_simp; (try go_ints); (try simp only [IntWalk.iteOmega]); (try go_simp); try with_reducible rfl))); (intro S' hS'; simp only [Act.put, List.setIfInBounds_toArray, List.set_cons_zero, List.set_cons_succ] at hS'; subst hS'))
                  -- 4 152:indexAddr
                  (refine Lin.walk_pure ?_ (by kernel_rfl) (by kernel_rfl) (by rfl) ?_ ?_; rotate_left; (focus (intro w; (go_simp; (try go_ints); (try simp only [IntWalk.iteOmega]); (try go_simp); try with_reducible rfl))); (intro S' hS'; simp only [Act.put, List.setIfInBounds_toArray, List.set_cons_zero, List.set_cons_succ] at hS'; subst hS'))
                  -- 5 153:load
                  (refine Lin.walk_read ?_ (by kernel_rfl) (by kernel_rfl) (by kernel_rfl) (by rfl) ?_ ?_; rotate_left; (focus (intro w1 hC hI; have h1 : Row w1 w.heap.size 0 (wcells u) := hI.1; have c0 := h1.cell0 (i := k) (wcells_get (by have := hsl.out; omega)); have c1 := hI.2.cell0 (i := k) (wcells_get (by have := HVL.out; omega)); (go_simp; (try go_ints); (try simp only [IntWalk.iteOmega]); (try go_simp); try with_reducible rfl))); (intro S' hS'; simp only [Act.put, List.setIfInBounds_toArray, List.set_cons_zero, List.set_cons_succ] at hS'; subst hS'))
                  -- 6 154:binOp
                  (refine Lin.walk_pure ?_ (by kernel_rfl) (by kernel_rfl) (by rfl) ?_ ?_; rotate_left; (focus (intro w; (go_simp; (try go_ints); (try simp only [IntWalk.iteOmega]); (try go_simp); try with_reducible rfl))); (intro S' hS'; simp only [Act.put, List.setIfInBounds_toArray, List.set_cons_zero, List.set_cons_succ] at hS'; subst hS'))
                  -- 7 155:indexAddr
                  (refine Lin.walk_pure ?_ (by kernel_rfl) (by kernel_rfl) (by rfl) ?_ ?_; rotate_left; (focus (intro w; (go_simp; (try go_ints); (try simp only [IntWalk.iteOmega]); (try go_simp); try with_reducible rfl))); (intro S' hS'; simp only [Act.put, List.setIfInBounds_toArray, List.set_cons_zero, List.set_cons_succ] at hS'; subst hS'))
                  -- 8 -:store
                  (refine Lin.walk_last [] undef (by kernel_rfl) rfl (by kernel_rfl) (fun _ => by rfl) ?_ ?_; (focus (intro f w1 hF hC hI; dsimp only at hC hI; clear hF; have h1 : Row w1 w.heap.size 0 (wcells u) := hI.1; have hl := hsl.out; have c1 := h1.free0 (i := k) (by rw [wcells_length]; omega); have c2 := h1.cell0 (i := k) (wcells_get (by omega)); simp only [Lin.over_nil]; go_simp; refine ⟨rfl, Chgd.one _ _ _ _, ?_, hI.2.keep (Chgd.one _ _ _ _) (fun e => by omega)⟩; show Row _ _ 0 (wcells (sums h v (k + 1))); rw [sums, ← HU.out, ← wcells_set]; exact Row.set0 (i := k) (cs := wcells u) h1 (by rw [wcells_length]; omega) _)); (intro S' hS'; simp only [Act.put] at hS'; subst hS'))
                  (refine Lin.walk_end0 rfl ?_; intro W' hC hI)
                  replace C6 := C6.trans hC (fun _ _ h => h)
                  have B2c : Row W' w.heap.size 0 (wcells (sums h v (k + 1))) := hI.1
                  clear hI hC hwa
                  go_wp2
                  go_roundw
                  case rel => exact ⟨k + 1, by omega, by go_num, B2c, C6⟩
                  case measure => simp [intOf]; omega
                · obtain rfl : k = 8 := by omega
                  have B4b := B4a.keep C6 (fun e => by omega)
                  have C7 : OnlyNew w wr := C5.trans C6 (fun j hj e => by omega)
                  rw [HV3.out, HW2.out, HWS.out] at B2b
                  have hl8' : Hid ((wcells (sums h (rounds h (sched (part bs 64) 64) 64) 8)).length = 8) := Lib.hid (by rw [wcells_length, sums_length]; have := Hl8.out; rwa [wcells_length] at this)
                  go_wp2_with (first
                    | (refine wpList_loadRow rfl 37 (.tmp 2) rfl w.heap.size 0 rfl _ B2b _ Tryd.underlying37 rfl 8 size8 hl8'.out ?_; rw [← HRV.out])
                    | (refine wpList_storeRow rfl 37 (.tmp 4) (.tmp 157) rfl (w.heap.size + 1) 0 _ (wcells (sums h (rounds h (sched (part bs 64) 64) 64) 8)) rfl (by show Value.agg rv = _; rw [HRV.out]) B4b 8 size8 rfl hl8'.out (wcells_one _) ?_; intro w8 B8 _ _ c8))
                  have C8 : OnlyNew w w8 := C7.trans c8 (fun j hj e => by omega)
                  refine bodyPost_ret (v := .tuple #[.agg rv, .bool true]) ?_ rfl ⟨rfl, C8⟩
                  rw [HRV.out]
                  exact results_cell_mid_tmp (p := 4) (u := 5) (ty := 37) rfl _ w8 (w.heap.size + 1) 0 (wcells (sums h (rounds h (sched (part bs 64) 64) 64) 8)) _ rfl B8.1 Tryd.underlying37 rfl (by rw [hl8'.out]; exact size8)
end Go.Proofs.YtomalanncdcopaaDoor.Dig
