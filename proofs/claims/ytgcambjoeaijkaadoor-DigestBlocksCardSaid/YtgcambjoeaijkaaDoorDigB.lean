/- The walk of DigestBlocks: Compress for every block, the equality of words, the law. -/
import Derived.Test.YtgcambjoeaijkaaDoorDigF
import Derived.ChangeKeysEq
namespace Go.Proofs.YtgcambjoeaijkaaDoor.Dig
open Go Go.RowKit Go.Proofs.YtgcambjoeaijkaaDoor.Mem

theorem eqItems_same {P : Program} (d : Nat) (e : TypeId) (he : P.underlying e = some (.int .u32)) (h : List Word) (w : World) : ∀ is : List Nat, (∀ i ∈ is, i < h.length) →
    (Op.eqItems (d + 1) e 1 (wcells h).toArray (wcells h).toArray is).run P w = .ok true w
  | [], _ => by simp [Op.eqItems]
  | i :: is, hi => by
    have ih := eqItems_same d e he h w is (fun j hj => hi j (by simp [hj]))
    have px : (Go.part e (wcells h).toArray (i * 1)).run P w = .ok (.int .u32 (wn (wat h i))) w := by
      have := wcells_get (hi i (by simp))
      simp [Go.part, isAgg, run_underlying he, this]
    have pe : (Op.equalIn (d + 1) e (.int .u32 (wn (wat h i))) (.int .u32 (wn (wat h i)))).run P w = .ok true w := by
      rw [run_equalIn_int w d e .u32 .u32 _ _ he]
      simp
    simp only [Op.eqItems, Sem.run_bind, px, pe, Result.andThen_ok, Bool.not_true, Bool.false_eq_true, if_false, Sem.run_pure]
    exact ih
theorem eq_words (h : List Word) (hh : h.length = 8) (w : World) :
    (Op.equalIn 10000 29 (.agg (wcells h).toArray) (.agg (wcells h).toArray)).run Tryd.prog w = .ok true w := by
  rw [run_equalIn_array w 9999 _ _ Tryd.underlying29 (show Tryd.prog.info? 28 = some _ from rfl)]
  rw [show Tryd.prog.cellsOf 28 = 1 by kernel_rfl]
  exact eqItems_same 9998 _ Tryd.underlying28 h w _ (fun i hi => by rw [hh]; exact List.mem_range.1 hi)

set_option maxRecDepth 100000 in
set_option maxHeartbeats 1000000 in
theorem comp_other (h : List Word) (hh : h.length = 8) (b : ByteArray) (hb : ¬ b.size = 64) (hb2 : b.size ≤ 1000) (w : World) :
    Calls Tryd.prog 13 #[.agg (wcells h).toArray, .string b] w fun r w' => r = .returned (.tuple #[.agg (wcells h).toArray, .bool false]) ∧ OnlyNew w w' := by
  obtain ⟨hv, hhv⟩ : ∃ hv, hv = (wcells h).toArray := ⟨_, rfl⟩
  rw [← hhv]
  have HV := Lib.hid (And.intro hhv trivial)
  have HL8 := Lib.hid (And.intro (show (wcells h).length = 8 by rw [wcells_length]; exact hh) trivial)
  have hbi : ¬ ((b.size : Int) = 64) := by omega
  have B2 := (Row.newAt w hv 29 (wcells h) w.heap.size rfl (by rw [hhv])).alloc (.cells #[.int .u32 0, .int .u32 0, .int .u32 0, .int .u32 0, .int .u32 0, .int .u32 0, .int .u32 0, .int .u32 0] 29)
  have B4 := Row.newAt (w.alloc (.cells hv 29)) #[.int .u32 0, .int .u32 0, .int .u32 0, .int .u32 0, .int .u32 0, .int .u32 0, .int .u32 0, .int .u32 0] 29 _ (w.heap.size + 1) (by simp) rfl
  have HB2 := Lib.hid B2
  have HB4 := Lib.hid B4
  clear hhv hh hb B2 B4
  go_enter Tryd.func13, Tryd.ntmps13
  go_wp2_with (first
    | (refine wpList_loadRow rfl 29 (.tmp 2) rfl w.heap.size 0 rfl (wcells h) HB2.out _ Tryd.underlying29 rfl 8 size8 HL8.out.1 ?_; rw [← HV.out.1])
    | (refine wpList_storeRow rfl 29 (.tmp 4) (.tmp 23) rfl (w.heap.size + 1) 0 _ (wcells h) rfl (by show Value.agg hv = _; rw [HV.out.1]) HB4.out 8 size8 rfl HL8.out.1 (wcells_one _) ?_; intro w8 B8 z1 z2 c8; clear z1 z2))
  refine bodyPost_ret (v := .tuple #[.agg hv, .bool false]) ?_ rfl ⟨rfl, (((Chgd.refl (fun _ => False) w).alloc _).alloc _).trans c8 (fun j hj e => by omega)⟩
  rw [HV.out.1]
  exact results_cell_mid_tmp (p := 4) (u := 5) (ty := 29) rfl _ w8 (w.heap.size + 1) 0 (wcells h) _ rfl B8.1 Tryd.underlying29 rfl (by rw [HL8.out.1]; exact size8)

set_option maxRecDepth 100000 in
set_option maxHeartbeats 1000000 in
theorem refcomp_other (h : List Word) (hh : h.length = 8) (b : ByteArray) (hb : ¬ b.size = 64) (hb2 : b.size ≤ 1000) (w : World) :
    Calls Tryd.prog 14 #[.agg (wcells64 h).toArray, .string b] w fun r w' => r = .returned (.tuple #[.agg (wcells64 h).toArray, .bool false]) ∧ OnlyNew w w' := by
  obtain ⟨hv, hhv⟩ : ∃ hv, hv = (wcells64 h).toArray := ⟨_, rfl⟩
  rw [← hhv]
  have HV := Lib.hid (And.intro hhv trivial)
  have HL8 := Lib.hid (And.intro (show (wcells64 h).length = 8 by rw [wcells64_length]; exact hh) trivial)
  have hbi : ¬ ((b.size : Int) = 64) := by omega
  have B2 := (Row.newAt w hv 33 (wcells64 h) w.heap.size rfl (by rw [hhv])).alloc (.cells #[.int .u64 0, .int .u64 0, .int .u64 0, .int .u64 0, .int .u64 0, .int .u64 0, .int .u64 0, .int .u64 0] 33)
  have B4 := Row.newAt (w.alloc (.cells hv 33)) #[.int .u64 0, .int .u64 0, .int .u64 0, .int .u64 0, .int .u64 0, .int .u64 0, .int .u64 0, .int .u64 0] 33 _ (w.heap.size + 1) (by simp) rfl
  have HB2 := Lib.hid B2
  have HB4 := Lib.hid B4
  clear hhv hh hb B2 B4
  go_enter Tryd.func14, Tryd.ntmps14
  go_wp2_with (first
    | (refine wpList_loadRow rfl 33 (.tmp 2) rfl w.heap.size 0 rfl (wcells64 h) HB2.out _ Tryd.underlying33 rfl 8 size8v HL8.out.1 ?_; rw [← HV.out.1])
    | (refine wpList_storeRow rfl 33 (.tmp 4) (.tmp 27) rfl (w.heap.size + 1) 0 _ (wcells64 h) rfl (by show Value.agg hv = _; rw [HV.out.1]) HB4.out 8 size8v rfl HL8.out.1 (wcells64_one _) ?_; intro w8 B8 z1 z2 c8; clear z1 z2))
  refine bodyPost_ret (v := .tuple #[.agg hv, .bool false]) ?_ rfl ⟨rfl, (((Chgd.refl (fun _ => False) w).alloc _).alloc _).trans c8 (fun j hj e => by omega)⟩
  rw [HV.out.1]
  exact results_cell_mid_tmp (p := 4) (u := 5) (ty := 33) rfl _ w8 (w.heap.size + 1) 0 (wcells64 h) _ rfl B8.1 Tryd.underlying33 rfl (by rw [HL8.out.1]; exact size8v)

/-- what any words and any block come to. -/
def step (h : List Word) (l : List UInt8) : List Word := if l.length = 64 then comp h l else h
theorem step_length (h : List Word) (l : List UInt8) (hh : h.length = 8) : (step h l).length = 8 := by
  unfold step
  split
  · have := run_length 1 h l
    have e : comp h (l.take 64) = comp h l := by rename_i h1; rw [List.take_of_length_le (by omega)]
    simp only [run, e] at this
    rw [this, hh]
  · exact hh
theorem comp_all (h : List Word) (hh : h.length = 8) (l : List UInt8) (hl : l.length ≤ 1000) (w : World) (hKT : KTab w) :
    Calls Tryd.prog 13 #[.agg (wcells h).toArray, .string (bstr l)] w fun r w' => r = .returned (.tuple #[.agg (wcells (step h l)).toArray, .bool (decide (l.length = 64))]) ∧ OnlyNew w w' := by
  by_cases e : l.length = 64
  · simp only [step, e, if_true, decide_true]
    exact comp_any h hh l e w hKT
  · simp only [step, e, if_false, decide_false]
    exact comp_other h hh _ (by rw [bstr_size]; exact e) (by rw [bstr_size]; exact hl) w
theorem refcomp_all (h : List Word) (hh : h.length = 8) (l : List UInt8) (hl : l.length ≤ 1000) (w : World) :
    Calls Tryd.prog 14 #[.agg (wcells64 h).toArray, .string (bstr l)] w fun r w' => r = .returned (.tuple #[.agg (wcells64 (step h l)).toArray, .bool (decide (l.length = 64))]) ∧ OnlyNew w w' := by
  by_cases e : l.length = 64
  · simp only [step, e, if_true, decide_true]
    exact refcomp_any h hh l e w
  · simp only [step, e, if_false, decide_false]
    exact refcomp_other h hh _ (by rw [bstr_size]; exact e) (by rw [bstr_size]; exact hl) w

set_option maxRecDepth 100000 in
set_option maxHeartbeats 2000000 in
theorem blocks_law (h : List Word) (hh : h.length = 8) (l : List UInt8) (hl : l.length ≤ 140737488351232) (w : World) (hKT : KTab w) :
    Calls Tryd.prog 4 #[.agg (wcells h).toArray, .string (bstr l)] w fun r w' => r = .returned (.bool true) ∧ OnlyNew w w' := by
  have hsz := bstr_size l
  obtain ⟨b, hb⟩ : ∃ b, b = bstr l := ⟨_, rfl⟩
  rw [← hb] at hsz ⊢
  obtain ⟨hv, hhv⟩ : ∃ hv, hv = (wcells h).toArray := ⟨_, rfl⟩
  rw [← hhv]
  have HK := Lib.hid hKT
  clear hKT
  by_cases h200 : 200 < l.length
  · have hb1 : 200 < b.size := by omega
    have hb2 : b.size ≤ 140737488351232 := by omega
    clear hsz hb hl h200 hhv
    go_enter Tryd.func4, Tryd.ntmps4
    go_wp2_with (go_at_call 8; refine (shown_any _ (HK.out.keep ((Chgd.refl (fun _ => False) w).alloc _) (fun h => h))).mono ?_; rintro e w1 ⟨rfl, c1⟩)
    go_ret
    exact ⟨rfl, ((Chgd.refl (fun _ => False) w).alloc _).trans c1 (fun _ _ h => h)⟩
  · have hb1 : b.size ≤ 200 := by omega
    obtain ⟨hr, hhr⟩ : ∃ hr, hr = step h l := ⟨_, rfl⟩
    have hrl : hr.length = 8 := by rw [hhr]; exact step_length h l hh
    obtain ⟨q, hq⟩ : ∃ q, q = decide (l.length = 64) := ⟨_, rfl⟩
    obtain ⟨xv, hxv⟩ : ∃ xv, xv = (wcells hr).toArray := ⟨_, rfl⟩
    obtain ⟨zv, hzv⟩ : ∃ zv, zv = (wcells64 hr).toArray := ⟨_, rfl⟩
    obtain ⟨gv, hgv⟩ : ∃ gv, gv = (wcells64 h).toArray := ⟨_, rfl⟩
    have B0 := Row.newAt w hv 29 (wcells h) w.heap.size rfl (by rw [hhv])
    have HB0 := Lib.hid B0
    have H1 := Lib.hid (⟨hb, hq, hhr, trivial⟩ : _ ∧ _ ∧ _ ∧ True)
    have HV := Lib.hid (And.intro hhv trivial)
    have HX := Lib.hid (And.intro hxv trivial)
    have HZ := Lib.hid (And.intro hzv trivial)
    have HGV := Lib.hid (And.intro hgv trivial)
    have HL := Lib.hid (show h.length = 8 ∧ hr.length = 8 ∧ (wcells h).length = 8 ∧ (wcells hr).length = 8 ∧ (wcells64 hr).length = 8 ∧ l.length ≤ 1000 from ⟨hh, hrl, by rw [wcells_length]; exact hh, by rw [wcells_length]; exact hrl, by rw [wcells64_length]; exact hrl, by omega⟩)
    have heq : ∀ wx, (Op.equalIn 10000 29 (.agg xv) (.agg xv)).run Tryd.prog wx = .ok true wx := fun wx => by
      rw [hxv]; exact eq_words hr hrl wx
    have HEQ := Lib.hid (And.intro heq trivial)
    clear hb hsz h200 hl hhr hrl hq hxv hzv hgv hhv hh B0 heq
    go_enter Tryd.func4, Tryd.ntmps4
    go_wp2_with (first
      | (go_at_call 8; refine (shown_any _ (HK.out.keep ((Chgd.refl (fun _ => False) w).alloc _) (fun h => h))).mono ?_; rintro e w1 ⟨rfl, c1⟩; have B2 := HB0.out.keep c1 (fun h => h); have C1 : OnlyNew w w1 := ((Chgd.refl (fun _ => False) w).alloc _).trans c1 (fun _ _ h => h); clear c1)
      | (refine wpList_loadRow rfl 29 (.tmp 2) rfl w.heap.size 0 rfl (wcells h) B2 _ Tryd.underlying29 rfl 8 size8 HL.out.2.2.1 ?_; rw [← HV.out.1])
      | (go_at_call 13; rw [HV.out.1, H1.out.1]; refine (comp_all h HL.out.1 l HL.out.2.2.2.2.2 _ (HK.out.keep C1 (fun h => h))).mono ?_; rintro e w2 ⟨rfl, c2⟩; rw [← HV.out.1, ← H1.out.1, ← H1.out.2.2.1, ← HX.out.1, ← H1.out.2.1]; replace B2 := B2.keep c2 (fun h => h); replace C1 := C1.trans c2 (fun _ _ h => h); clear c2)
      | (refine wpList_storeRow rfl 29 (.tmp 5) (.tmp 21) rfl w2.heap.size 0 _ (wcells hr) rfl (by show Value.agg xv = _; rw [HX.out.1]) (Row.newAt _ _ _ (wcells zero8) _ rfl rfl) 8 size8 rfl HL.out.2.2.2.1 (wcells_one _) ?_; intro w3 B5 z1 z2 c3; clear z1 z2; have HS2 := Lib.hid C1.size; replace B2 := (B2.alloc _).keep c3 (fun e => by have := HS2.out; have := B2.lt (by rw [HL.out.2.2.1]; omega); omega); replace C1 := (C1.alloc _).trans c3 (fun j hj e => by have := HS2.out; omega); clear c3 HS2)
      | (go_at_call 15; rw [HV.out.1]; refine (back_any h HL.out.1 _).mono ?_; rintro e w4 ⟨rfl, c4⟩; rw [← HV.out.1, ← HGV.out.1]; replace B5 := B5.keep c4 (fun h => h); replace C1 := C1.trans c4 (fun _ _ h => h); clear c4)
      | (go_at_call 14; rw [HGV.out.1, H1.out.1]; refine (refcomp_all h HL.out.1 l HL.out.2.2.2.2.2 _).mono ?_; rintro e w5 ⟨rfl, c5⟩; rw [← HGV.out.1, ← H1.out.1, ← H1.out.2.2.1, ← HZ.out.1, ← H1.out.2.1]; replace B5 := B5.keep c5 (fun h => h); replace C1 := C1.trans c5 (fun _ _ h => h); clear c5)
      | (refine wpList_storeRow rfl 33 (.tmp 7) (.tmp 28) rfl w5.heap.size 0 _ (wcells64 hr) rfl (by show Value.agg zv = _; rw [HZ.out.1]) (Row.newAt _ _ _ (wcells64 zero8) _ rfl rfl) 8 size8v rfl HL.out.2.2.2.2.1 (wcells64_one _) ?_; intro w6 B7 z1 z2 c6; clear z1 z2; have HS2 := Lib.hid C1.size; replace B5 := (B5.alloc _).keep c6 (fun e => by have := B5.lt (by rw [HL.out.2.2.2.1]; omega); omega); replace C1 := (C1.alloc _).trans c6 (fun j hj e => by have := HS2.out; omega); clear c6 HS2))
    obtain ⟨p5, hp5⟩ : ∃ p5, p5 = w2.heap.size := ⟨_, rfl⟩
    obtain ⟨p7, hp7⟩ : ∃ p7, p7 = w5.heap.size := ⟨_, rfl⟩
    rw [← hp5] at B5
    rw [← hp7] at B7
    rw [← hp5, ← hp7]
    clear hp5 hp7
    refine Lin.region_lin [0, 0, 3, 7, 15, 15, 47, 127, 255, 511] [] [] (fun _ => False) (fun _ w' => Row w' p5 0 (wcells hr) ∧ Row w' p7 0 (wcells64 hr)) _ (by kernel_rfl) rfl (by kernel_rfl) (⟨B5.drew, B7.drew⟩) ?_
    -- 0 30:move
    (refine Lin.walk_pure ?_ (by kernel_rfl) (by kernel_rfl) (by rfl) ?_ ?_; rotate_left; (focus (intro w; (go_simp; (try go_ints); (try simp only [IntWalk.iteOmega]); (try go_simp); try with_reducible rfl))); (intro S' hS'; simp only [Act.put, List.setIfInBounds_toArray, List.set_cons_zero, List.set_cons_succ] at hS'; subst hS'))
    -- 1 31:move
    (refine Lin.walk_pure ?_ (by kernel_rfl) (by kernel_rfl) (by rfl) ?_ ?_; rotate_left; (focus (intro w; (go_simp; (try go_ints); (try simp only [IntWalk.iteOmega]); (try go_simp); try with_reducible rfl))); (intro S' hS'; simp only [Act.put, List.setIfInBounds_toArray, List.set_cons_zero, List.set_cons_succ] at hS'; subst hS'))
    -- 2 32:binOp
    (refine Lin.walk_pure ?_ (by kernel_rfl) (by kernel_rfl) (by rfl) ?_ ?_; rotate_left; (focus (intro w; (go_simp; (try go_ints); (try simp only [IntWalk.iteOmega]); (try go_simp); try with_reducible rfl))); (intro S' hS'; simp only [Act.put, List.setIfInBounds_toArray, List.set_cons_zero, List.set_cons_succ] at hS'; subst hS'))
    -- 3 33:move
    (refine Lin.walk_pure ?_ (by kernel_rfl) (by kernel_rfl) (by rfl) ?_ ?_; rotate_left; (focus (intro w; (go_simp; (try go_ints); (try simp only [IntWalk.iteOmega]); (try go_simp); try with_reducible rfl))); (intro S' hS'; simp only [Act.put, List.setIfInBounds_toArray, List.set_cons_zero, List.set_cons_succ] at hS'; subst hS'))
    -- 4 34:load?
    (refine Lin.walk_read (.agg xv) (by kernel_rfl) (by kernel_rfl) (by kernel_rfl) (by rfl) ?_ ?_; (focus (intro w1 hC hI; rw [HX.out.1]; exact exec_loadRow 29 (.tmp 5) rfl p5 0 rfl (wcells hr) hI.1 _ Tryd.underlying29 rfl 8 size8 HL.out.2.2.2.1)); (intro S' hS'; simp only [Act.put, List.setIfInBounds_toArray, List.set_cons_zero, List.set_cons_succ] at hS'; subst hS'))
    -- 5 35:load?
    (refine Lin.walk_read (.agg zv) (by kernel_rfl) (by kernel_rfl) (by kernel_rfl) (by rfl) ?_ ?_; (focus (intro w1 hC hI; rw [HZ.out.1]; exact exec_loadRow 33 (.tmp 7) rfl p7 0 rfl (wcells64 hr) hI.2 _ Tryd.underlying33 rfl 8 size8v HL.out.2.2.2.2.1)); (intro S' hS'; simp only [Act.put, List.setIfInBounds_toArray, List.set_cons_zero, List.set_cons_succ] at hS'; subst hS'))
    -- 6 36:call!?
    (refine Lin.walk_call (.agg xv) (by kernel_rfl) (by kernel_rfl) (by kernel_rfl) (by rfl) ?_ ?_; (focus (intro w1 hC hI; dsimp only at hC hI; go_simp; rw [HZ.out.1, HX.out.1]; exact Calls.mono (words_any hr HL.out.2.1 _) (by rintro e' w9 ⟨rfl, hN⟩; exact ⟨_, rfl, rfl, hN, hI.1.keep hN (fun h => h), hI.2.keep hN (fun h => h)⟩))); (intro S' hS'; simp only [Act.put, List.setIfInBounds_toArray, List.set_cons_zero, List.set_cons_succ] at hS'; subst hS'))
    -- 7 37:binOp?
    (refine Lin.walk_pure (.bool true) (by kernel_rfl) (by kernel_rfl) (by rfl) ?_ ?_; (focus (intro w; have heq := HEQ.out.1; go_simp; (try simp [heq]))); (intro S' hS'; simp only [Act.put, List.setIfInBounds_toArray, List.set_cons_zero, List.set_cons_succ] at hS'; subst hS'))
    -- 8 38:pick
    (refine Lin.walk_pure ?_ (by kernel_rfl) (by kernel_rfl) (by rfl) ?_ ?_; rotate_left; (focus (intro w; (go_simp; (try go_ints); (try simp only [IntWalk.iteOmega]); (try go_simp); try with_reducible rfl))); (intro S' hS'; simp only [Act.put, List.setIfInBounds_toArray, List.set_cons_zero, List.set_cons_succ] at hS'; subst hS'))
    -- 9 4:assign
    (refine Lin.walk_pure ?_ (by kernel_rfl) (by kernel_rfl) (by rfl) ?_ ?_; rotate_left; (focus (intro w; (go_simp; (try go_ints); (try simp only [IntWalk.iteOmega]); (try go_simp); try with_reducible rfl))); (intro S' hS'; simp only [Act.put, List.setIfInBounds_toArray, List.set_cons_zero, List.set_cons_succ] at hS'; subst hS'))
    (refine Lin.walk_end0 rfl ?_; intro W' hC hI)
    clear hI
    go_wp2
    go_ret
    exact ⟨rfl, C1.trans hC (fun _ _ h => h)⟩
end Go.Proofs.YtgcambjoeaijkaaDoor.Dig
