/- The contracts of a Stream's Write and Sum, and of Sum. -/
import Derived.Test.YtomalanncdcopaaDoorDigS
set_option linter.unusedSimpArgs false
set_option linter.unusedVariables false
namespace Go.Proofs.YtomalanncdcopaaDoor.Dig
open Go Go.RowKit Go.Proofs.YtomalanncdcopaaDoor.Mem

/-- A stream is not the table. -/
theorem stm_ne {w : World} (hK : KTab w) {p : Nat} {t : List UInt8} (h : Stm w p t) : 0 ≠ p := by
  obtain ⟨h, h1, _, hR⟩ := h
  exact Row.ne (hK 8 (by omega)) (stm8 h1 hR) (by simp)

/-- Up to the loop: the state is that of all bytes, some blocks of which are still to come. -/
def Mid (w : World) (p : Nat) (T : List UInt8) (q : Nat) : Prop := Row w p 0 (stmCells (run iv T q) (T.drop (64 * q)) T.length)

set_option maxHeartbeats 1000000 in
theorem write_any (p : Nat) (t s : List UInt8) (hl : t.length + s.length ≤ 1000000000000) (w : World) (hKT : KTab w) (hS : Stm w p t) :
    Calls Tryd.prog 16 #[.pointer (some ⟨p, 0, none⟩), .string (bstr s)] w fun r w' => r = .returned (.tuple #[]) ∧ Stm w' p (t ++ s) ∧ Chgd (fun j => j = p) w w' := by
  have hgp := stm_ne hKT hS
  obtain ⟨h, hh, hrun, hR⟩ := hS
  have hsz := bstr_size s
  obtain ⟨b, hb⟩ : ∃ b, b = bstr s := ⟨_, rfl⟩
  rw [← hb] at hsz ⊢
  obtain ⟨q, hq⟩ : ∃ q, q = t.length / 64 := ⟨_, rfl⟩
  rw [← hq] at hR hrun
  obtain ⟨m, hm⟩ : ∃ m, m = t.length := ⟨_, rfl⟩
  rw [← hm] at hR hl hq
  obtain ⟨T, hT⟩ : ∃ T, T = t ++ s := ⟨_, rfl⟩
  rw [← hT]
  have hTl : T.length = m + b.size := by rw [hT, hm, hsz]; simp
  have hbz : b.size = s.length := hsz
  have hrT : m ≠ 0 → h = run iv T q := fun h0 => by
    rw [hrun (fun e => h0 (by rw [hm, e]; rfl)), hT, run_app]
    omega
  have hrT0 : m = 0 → run iv T q = iv := fun h0 => by rw [hq, h0]; rfl
  have hdT : bstr (t.drop (64 * q)) ++ b = bstr (T.drop (64 * q)) := by
    rw [hb, bstr_append, hT, List.drop_append_of_le_length (by omega)]
  obtain ⟨r0, hr0⟩ : ∃ r0, r0 = bstr (t.drop (64 * q)) := ⟨_, rfl⟩
  obtain ⟨r1, hr1⟩ : ∃ r1, r1 = bstr (T.drop (64 * q)) := ⟨_, rfl⟩
  have c8 := stm8 hh hR
  have c9 := stm9 hh hR
  have f8 := hR.free0 (i := 8) (by rw [stmCells_length h hh]; omega)
  have f9 := hR.free0 (i := 9) (by rw [stmCells_length h hh]; omega)
  rw [← hr0] at c8
  have hcat : r0 ++ b = r1 := by rw [hr0, hr1]; exact hdT
  have hrs : r0.size ≤ 1000000000000 := by rw [hr0, bstr_size, List.length_drop]; omega
  have hb1 : b.size ≤ 1000000000000 := by omega
  have hm1 : m ≤ 1000000000000 := by omega
  have hmb : m + b.size ≤ 1000000000000 := by omega
  have H1 := Lib.hid (⟨hrT, hrT0, hTl, hr1, hq, hR, hh⟩ : _ ∧ _ ∧ _ ∧ _ ∧ _ ∧ _ ∧ _)
  have hnat : ((m + b.size : Nat) : Int) = (m : Int) + b.size := by omega
  have HNAT := Lib.hid hnat
  clear hnat
  have HK := Lib.hid hKT
  clear hrT hrT0 hTl hr1 hq hR hh hrun hT hm hb hsz hl hdT hr0 hKT hbz
  have hfin : ∀ wL : World, Row wL p 0 (stmCells (run iv T q) (T.drop (64 * q)) (m + b.size)) → Mid wL p T q := fun wL h => by
    unfold Mid
    rw [H1.out.2.2.1]
    exact h
  have HF := Lib.hid hfin
  clear hfin
  by_cases h0 : m = 0
  · have hm0 : ((m : Int) == 0) = true := by simp; omega
    have H0 := Lib.hid h0
    clear h0
    go_enter Tryd.func16, Tryd.ntmps16
    have R8 := Row.left (xs := wcells h) H1.out.2.2.2.2.2.1
    have hl8 : (wcells h).length = 8 := by rw [wcells_length]; exact H1.out.2.2.2.2.2.2
    have HL8 := Lib.hid hl8
    have hpl := block_lt c9
    clear hl8
    obtain ⟨bv, hbv⟩ : ∃ bv, bv = (wcells iv).toArray := ⟨_, rfl⟩
    have HBV := Lib.hid hbv
    go_wp2_with (first
      | (go_at_call 20; refine (begins_any _).mono ?_; rintro e w1 ⟨rfl, c1⟩; rw [← hbv]; clear hbv)
      | (refine wpList_storeRow rfl 37 (.tmp 12) (.tmp 10) rfl p 0 (wcells h) (wcells iv) rfl (by show Value.agg bv = _; rw [HBV.out]) (R8.keep c1 (fun h => h)) 8 size8 HL8.out rfl (wcells_one _) ?_; intro w2 B2 t2 o2 c2; have k8 := (o2 8 (by omega)).trans (c1.cell (p := ⟨p, 8, none⟩) hpl (fun h => h)); rw [c8] at k8; have k9 := (o2 9 (by omega)).trans (c1.cell (p := ⟨p, 9, none⟩) hpl (fun h => h)); rw [c9] at k9; have RR := (Row.right (xs := wcells h) H1.out.2.2.2.2.2.1).keep c1 (fun h => h); rw [HL8.out] at RR; have RJ := Row.join B2 (by have := RR.beside (o := 0 + 8) t2 o2 (by omega); exact this); have RJ : Row w2 p 0 (stmCells iv (t.drop (64 * q)) m) := RJ; have g8 := RJ.free0 (i := 8) (by rw [stmCells_length iv rfl]; omega); have g9 := RJ.free0 (i := 9) (by rw [stmCells_length iv rfl]; omega); clear B2 t2 o2 RR R8))
    have M0 : Mid ((w2.setCell ⟨p, 9, none⟩ (.int .i64 ((m : Int) + b.size))).setCell ⟨p, 8, none⟩ (.string r1)) p T q := by
      refine HF.out _ ?_
      rw [← HNAT.out, H1.out.2.2.2.1, H1.out.2.1 H0.out]
      exact stm_set8 rfl (stm_set9 rfl RJ (m + b.size)) _
    have C0 : Chgd (fun j => j = p) w ((w2.setCell ⟨p, 9, none⟩ (.int .i64 ((m : Int) + b.size))).setCell ⟨p, 8, none⟩ (.string r1)) := (((c1.mono (fun _ _ h => h.elim)).trans c2 (fun _ _ h => h)).trans (Chgd.one _ _ _ _) (fun _ _ h => h)).trans (Chgd.one _ _ _ _) (fun _ _ h => h)
    generalize (w2.setCell ⟨p, 9, none⟩ (.int .i64 ((m : Int) + b.size))).setCell ⟨p, 8, none⟩ (.string r1) = wL at M0 C0 ⊢
    clear RJ g8 g9 k8 k9 c1 c2 hpl hm0
    obtain ⟨mT, hmT⟩ : ∃ mT, mT = T.length := ⟨_, rfl⟩
    have hmT1 : mT ≤ 1000000000000 := by rw [hmT, H1.out.2.2.1]; omega
    have hiv : ∀ n, (run iv T n).length = 8 := fun n => run_length n _ _
    have HM := Lib.hid hmT
    have HIV := Lib.hid hiv
    clear hmT hiv
    go_loopw [30] (fun _ wr => ∃ j : Nat, 64 * j ≤ mT ∧ Mid wr p T j ∧ Chgd (fun k => k = p) w wr) (fun _ wr => match wr.cell? ⟨p, 8, none⟩ with | some (.string s) => s.size | _ => 0)
    case atStart => exact ⟨q, by have h1 := H1.out.2.2.2.2.1; have h2 := H1.out.2.2.1; have h3 := HM.out; omega, M0, C0⟩
    case round =>
      obtain ⟨j, hj, M1, C1⟩ := hrel
      have R1 : Row wr p 0 (stmCells (run iv T j) (T.drop (64 * j)) mT) := by rw [HM.out]; exact M1
      have k8 := stm8 (HIV.out j) R1
      have g8 := R1.free0 (i := 8) (by rw [stmCells_length _ (HIV.out j)]; omega)
      obtain ⟨rj, hrj⟩ : ∃ rj, rj = bstr (T.drop (64 * j)) := ⟨_, rfl⟩
      rw [← hrj] at k8
      have hrjs : rj.size = mT - 64 * j := by rw [hrj, bstr_size, List.length_drop, HM.out]
      by_cases hlt : 64 * j + 64 ≤ mT
      · have hge : 64 ≤ rj.size := by omega
        have hle : rj.size ≤ 1000000000000 := by omega
        have HRS := Lib.hid hrjs
        have HRJ := Lib.hid hrj
        have HR1 := Lib.hid R1
        clear hrj hrjs M1 R1
        have hx1 : rj.extract 0 64 = bstr ((T.drop (64 * j)).take 64) := by rw [HRJ.out]; exact bstr_take _ _
        have hx2 : rj.extract 64 rj.size = bstr (T.drop (64 * (j + 1))) := by rw [HRJ.out, bstr_drop, List.drop_drop, show 64 * j + 64 = 64 * (j + 1) by omega]
        obtain ⟨hj0, hhj0⟩ : ∃ hj0, hj0 = run iv T j := ⟨_, rfl⟩
        obtain ⟨B, hB⟩ : ∃ B, B = (T.drop (64 * j)).take 64 := ⟨_, rfl⟩
        have hB64 : B.length = 64 := by rw [hB, List.length_take, List.length_drop, ← HM.out]; omega
        obtain ⟨hj1, hhj1⟩ : ∃ hj1, hj1 = comp hj0 B := ⟨_, rfl⟩
        have hnext : hj1 = run iv T (j + 1) := by rw [hhj1, hhj0, hB, run_snoc]
        obtain ⟨b64, hb64⟩ : ∃ b64, b64 = bstr B := ⟨_, rfl⟩
        obtain ⟨r2, hr2⟩ : ∃ r2, r2 = bstr (T.drop (64 * (j + 1))) := ⟨_, rfl⟩
        obtain ⟨hv, hhv⟩ : ∃ hv, hv = (wcells hj0).toArray := ⟨_, rfl⟩
        obtain ⟨hv1, hhv1⟩ : ∃ hv1, hv1 = (wcells hj1).toArray := ⟨_, rfl⟩
        rw [← hB, ← hb64] at hx1
        rw [← hr2] at hx2
        have hl0 : hj0.length = 8 := by rw [hhj0]; exact HIV.out j
        have hl1 : hj1.length = 8 := by rw [hnext]; exact HIV.out _
        have hr2s : r2.size < rj.size := by rw [hr2, bstr_size, List.length_drop, HRS.out, ← HM.out]; omega
        have R1 := HR1.out
        rw [← hhj0] at R1
        have HH := Lib.hid (⟨hB64, hhj1, hnext, hb64, hr2, hhv, hhv1, hl0, hl1, hhj0⟩ : _ ∧ _ ∧ _ ∧ _ ∧ _ ∧ _ ∧ _ ∧ _ ∧ _ ∧ _)
        have HX2 := Lib.hid hx2
        have HR2 := Lib.hid hr2s
        have HRX := Lib.hid R1
        clear hB64 hhj1 hnext hb64 hr2 hhv hhv1 hl0 hl1 hhj0 hB hx2 HR1 hr2s R1
        go_wp2
        refine Lin.region_lin [0, 0, 2, 6, 14, 0, 32, 96, 224, 480, 1022, 2046, 4094, 4094, 8191, 24575, 57343] [] [16] (fun k => k = p) (fun e w' => Row w' p 0 (stmCells (two hj0 hj1 e) (T.drop (64 * j)) mT) ∧ KTab w') _ (by kernel_rfl) rfl (by kernel_rfl) (⟨HRX.out.drew, (HK.out.keep C1 hgp).keep (Chgd.refl (fun _ => False) _).drew (fun h => h)⟩) ?_
        -- 0 37:move
        (refine Lin.walk_pure ?_ (by kernel_rfl) (by kernel_rfl) (by rfl) ?_ ?_; rotate_left; (focus (intro w; (go_simp; (try go_ints); (try simp only [IntWalk.iteOmega]); (try go_simp); try with_reducible rfl))); (intro S' hS'; simp only [Act.put, List.setIfInBounds_toArray, List.set_cons_zero, List.set_cons_succ] at hS'; subst hS'))
        -- 1 38:move
        (refine Lin.walk_pure ?_ (by kernel_rfl) (by kernel_rfl) (by rfl) ?_ ?_; rotate_left; (focus (intro w; (go_simp; (try go_ints); (try simp only [IntWalk.iteOmega]); (try go_simp); try with_reducible rfl))); (intro S' hS'; simp only [Act.put, List.setIfInBounds_toArray, List.set_cons_zero, List.set_cons_succ] at hS'; subst hS'))
        -- 2 39:nilCheck
        (refine Lin.walk_pure ?_ (by kernel_rfl) (by kernel_rfl) (by rfl) ?_ ?_; rotate_left; (focus (intro w; (go_simp; (try go_ints); (try simp only [IntWalk.iteOmega]); (try go_simp); try with_reducible rfl))); (intro S' hS'; simp only [Act.put, List.setIfInBounds_toArray, List.set_cons_zero, List.set_cons_succ] at hS'; subst hS'))
        -- 3 40:fieldAddr
        (refine Lin.walk_pure ?_ (by kernel_rfl) (by kernel_rfl) (by rfl) ?_ ?_; rotate_left; (focus (intro w; (go_simp; (try go_ints); (try simp only [IntWalk.iteOmega]); (try go_simp); try with_reducible rfl))); (intro S' hS'; simp only [Act.put, List.setIfInBounds_toArray, List.set_cons_zero, List.set_cons_succ] at hS'; subst hS'))
        -- 4 41:load
        (refine Lin.walk_read (.agg hv) (by kernel_rfl) (by kernel_rfl) (by kernel_rfl) (by rfl) ?_ ?_; (focus (intro w1 hC hI; rw [HH.out.2.2.2.2.2.1]; exact exec_loadRow 37 (.tmp 40) rfl p 0 rfl (wcells hj0) (Row.left (xs := wcells hj0) hI.1) _ Tryd.underlying37 rfl 8 size8 (by rw [wcells_length]; exact HH.out.2.2.2.2.2.2.2.1))); (intro S' hS'; simp only [Act.put, List.setIfInBounds_toArray, List.set_cons_zero, List.set_cons_succ] at hS'; subst hS'))
        -- 5 42:move
        (refine Lin.walk_pure ?_ (by kernel_rfl) (by kernel_rfl) (by rfl) ?_ ?_; rotate_left; (focus (intro w; (go_simp; (try go_ints); (try simp only [IntWalk.iteOmega]); (try go_simp); try with_reducible rfl))); (intro S' hS'; simp only [Act.put, List.setIfInBounds_toArray, List.set_cons_zero, List.set_cons_succ] at hS'; subst hS'))
        -- 6 43:nilCheck
        (refine Lin.walk_pure ?_ (by kernel_rfl) (by kernel_rfl) (by rfl) ?_ ?_; rotate_left; (focus (intro w; (go_simp; (try go_ints); (try simp only [IntWalk.iteOmega]); (try go_simp); try with_reducible rfl))); (intro S' hS'; simp only [Act.put, List.setIfInBounds_toArray, List.set_cons_zero, List.set_cons_succ] at hS'; subst hS'))
        -- 7 44:fieldAddr
        (refine Lin.walk_pure ?_ (by kernel_rfl) (by kernel_rfl) (by rfl) ?_ ?_; rotate_left; (focus (intro w; (go_simp; (try go_ints); (try simp only [IntWalk.iteOmega]); (try go_simp); try with_reducible rfl))); (intro S' hS'; simp only [Act.put, List.setIfInBounds_toArray, List.set_cons_zero, List.set_cons_succ] at hS'; subst hS'))
        -- 8 45:load
        (refine Lin.walk_read ?_ (by kernel_rfl) (by kernel_rfl) (by kernel_rfl) (by rfl) ?_ ?_; rotate_left; (focus (intro w1 hC hI; have c1 := stm8 HH.out.2.2.2.2.2.2.2.1 hI.1; rw [← HRJ.out] at c1; (go_simp; (try go_ints); (try simp only [IntWalk.iteOmega]); (try go_simp); try with_reducible rfl))); (intro S' hS'; simp only [Act.put, List.setIfInBounds_toArray, List.set_cons_zero, List.set_cons_succ] at hS'; subst hS'))
        -- 9 46:slice
        (refine Lin.walk_pure ?_ (by kernel_rfl) (by kernel_rfl) (by rfl) ?_ ?_; rotate_left; (focus (intro w; (go_simp; (try go_ints); (try simp only [IntWalk.iteOmega]); (try go_simp); try with_reducible rfl))); (intro S' hS'; simp only [Act.put, List.setIfInBounds_toArray, List.set_cons_zero, List.set_cons_succ] at hS'; subst hS'))
        -- 10 47:call!
        (refine Lin.walk_call (.tuple #[.agg hv1, .bool true]) (by kernel_rfl) (by kernel_rfl) (by kernel_rfl) (by rfl) ?_ ?_; (focus (intro w1 hC hI; dsimp only at hC hI; go_simp; have c := comp_any hj0 HH.out.2.2.2.2.2.2.2.1 B HH.out.1 w1 hI.2; rw [← HH.out.2.1, ← HH.out.2.2.2.1, ← HH.out.2.2.2.2.2.1, ← HH.out.2.2.2.2.2.2.1] at c; exact Calls.mono c (by rintro e w2 ⟨rfl, hN⟩; exact ⟨_, rfl, rfl, hN.mono (fun _ _ h => h.elim), hI.1.keep hN (fun h => h), hI.2.keep hN (fun h => h)⟩))); (intro S' hS'; simp only [Act.put, List.setIfInBounds_toArray, List.set_cons_zero, List.set_cons_succ] at hS'; subst hS'))
        -- 11 36:move
        (refine Lin.walk_pure ?_ (by kernel_rfl) (by kernel_rfl) (by rfl) ?_ ?_; rotate_left; (focus (intro w; (go_simp; (try go_ints); (try simp only [IntWalk.iteOmega]); (try go_simp); try with_reducible rfl))); (intro S' hS'; simp only [Act.put, List.setIfInBounds_toArray, List.set_cons_zero, List.set_cons_succ] at hS'; subst hS'))
        -- 12 48:extract
        (refine Lin.walk_pure ?_ (by kernel_rfl) (by kernel_rfl) (by rfl) ?_ ?_; rotate_left; (focus (intro w; (go_simp; (try go_ints); (try simp only [IntWalk.iteOmega]); (try go_simp); try with_reducible rfl))); (intro S' hS'; simp only [Act.put, List.setIfInBounds_toArray, List.set_cons_zero, List.set_cons_succ] at hS'; subst hS'))
        -- 13 49:extract
        (refine Lin.walk_pure ?_ (by kernel_rfl) (by kernel_rfl) (by rfl) ?_ ?_; rotate_left; (focus (intro w; (go_simp; (try go_ints); (try simp only [IntWalk.iteOmega]); (try go_simp); try with_reducible rfl))); (intro S' hS'; simp only [Act.put, List.setIfInBounds_toArray, List.set_cons_zero, List.set_cons_succ] at hS'; subst hS'))
        -- 14 50:nilCheck
        (refine Lin.walk_pure ?_ (by kernel_rfl) (by kernel_rfl) (by rfl) ?_ ?_; rotate_left; (focus (intro w; (go_simp; (try go_ints); (try simp only [IntWalk.iteOmega]); (try go_simp); try with_reducible rfl))); (intro S' hS'; simp only [Act.put, List.setIfInBounds_toArray, List.set_cons_zero, List.set_cons_succ] at hS'; subst hS'))
        -- 15 51:fieldAddr
        (refine Lin.walk_pure ?_ (by kernel_rfl) (by kernel_rfl) (by rfl) ?_ ?_; rotate_left; (focus (intro w; (go_simp; (try go_ints); (try simp only [IntWalk.iteOmega]); (try go_simp); try with_reducible rfl))); (intro S' hS'; simp only [Act.put, List.setIfInBounds_toArray, List.set_cons_zero, List.set_cons_succ] at hS'; subst hS'))
        -- 16 -:store
        (refine Lin.walk_last [] undef (by kernel_rfl) rfl (by kernel_rfl) (fun _ => by rfl) ?_ ?_; (focus (intro f w1 hF hC hI; dsimp only at hC hI; clear hF; have hI1 : Row w1 p 0 (stmCells hj0 (T.drop (64 * j)) mT) := hI.1; have hR8 := (Row.left (xs := wcells hj0) hI1); have hRR := (Row.right (xs := wcells hj0) hI1); have hl := HH.out.2.2.2.2.2.2.2.1; refine gives_storeRow 37 (.tmp 51) (.tmp 48) rfl p 0 (wcells hj0) (wcells hj1) rfl (by show Value.agg hv1 = _; rw [HH.out.2.2.2.2.2.2.1]) hR8 8 size8 (by rw [wcells_length]; exact hl) (by rw [wcells_length]; exact HH.out.2.2.2.2.2.2.2.2.1) (wcells_one _) (fun w2 h1 h2 h3 h4 => ⟨rfl, h4, ?_, hI.2.keep h4 hgp⟩); have hRR' := hRR.beside h2 h3 (by rw [wcells_length, hl]; omega); rw [wcells_length, hl] at hRR'; show Row w2 p 0 (stmCells hj1 (T.drop (64 * j)) mT); exact Row.join h1 (by rw [wcells_length, HH.out.2.2.2.2.2.2.2.2.1]; exact hRR'))); (intro S' hS'; simp only [Act.put] at hS'; subst hS'))
        (refine Lin.walk_end0 rfl ?_; intro W' hC hI)
        replace C1 := C1.trans hC (fun _ _ h => h)
        have R2 : Row W' p 0 (stmCells hj1 (T.drop (64 * j)) mT) := hI.1
        clear hI hC
        have c2 := stm8 HH.out.2.2.2.2.2.2.2.2.1 R2
        rw [← HRJ.out] at c2
        have f2 := R2.free0 (i := 8) (by rw [stmCells_length _ HH.out.2.2.2.2.2.2.2.2.1]; omega)
        have R3 := Lib.hid (stm_set8 HH.out.2.2.2.2.2.2.2.2.1 R2 (T.drop (64 * (j + 1))))
        clear R2 hx1
        have hx2 := HX2.out
        go_wp2
        go_roundw
        case rel =>
          refine ⟨j + 1, by omega, ?_, C1.trans (Chgd.one _ _ _ _) (fun _ _ h => h)⟩
          unfold Mid
          rw [← HH.out.2.2.1, HH.out.2.2.2.2.1, ← HM.out]
          exact R3.out
        case measure =>
          have e1 : (W'.setCell ⟨p, 8, none⟩ (.string r2)).cell? ⟨p, 8, none⟩ = some (.string r2) := World.cell?_setCell_same _ _ _ c2
          rw [e1, k8]
          exact HR2.out
      · have hlt2 : rj.size < 64 := by omega
        have HRS := Lib.hid hrjs
        clear hrj hrjs
        go_wp2
        go_end0
        refine ⟨rfl, ⟨run iv T j, HIV.out j, fun _ => ?_, ?_⟩, C1⟩
        · rw [← HM.out, show mT / 64 = j by omega]
        · rw [← HM.out, show mT / 64 = j by omega]; exact R1
  · have hm0 : ((m : Int) == 0) = false := by simp; omega
    go_enter Tryd.func16, Tryd.ntmps16
    go_wp2_with fail
    have M0 : Mid ((w.setCell ⟨p, 9, none⟩ (.int .i64 ((m : Int) + b.size))).setCell ⟨p, 8, none⟩ (.string r1)) p T q := by
      refine HF.out _ ?_
      rw [← HNAT.out, H1.out.2.2.2.1, ← H1.out.1 h0]
      exact stm_set8 H1.out.2.2.2.2.2.2 (stm_set9 H1.out.2.2.2.2.2.2 H1.out.2.2.2.2.2.1 (m + b.size)) _
    have C0 : Chgd (fun j => j = p) w ((w.setCell ⟨p, 9, none⟩ (.int .i64 ((m : Int) + b.size))).setCell ⟨p, 8, none⟩ (.string r1)) := (Chgd.one _ _ _ _).trans (Chgd.one _ _ _ _) (fun _ _ h => h)
    generalize (w.setCell ⟨p, 9, none⟩ (.int .i64 ((m : Int) + b.size))).setCell ⟨p, 8, none⟩ (.string r1) = wL at M0 C0 ⊢
    clear hm0
    obtain ⟨mT, hmT⟩ : ∃ mT, mT = T.length := ⟨_, rfl⟩
    have hmT1 : mT ≤ 1000000000000 := by rw [hmT, H1.out.2.2.1]; omega
    have hiv : ∀ n, (run iv T n).length = 8 := fun n => run_length n _ _
    have HM := Lib.hid hmT
    have HIV := Lib.hid hiv
    clear hmT hiv
    go_loopw [30] (fun _ wr => ∃ j : Nat, 64 * j ≤ mT ∧ Mid wr p T j ∧ Chgd (fun k => k = p) w wr) (fun _ wr => match wr.cell? ⟨p, 8, none⟩ with | some (.string s) => s.size | _ => 0)
    case atStart => exact ⟨q, by have h1 := H1.out.2.2.2.2.1; have h2 := H1.out.2.2.1; have h3 := HM.out; omega, M0, C0⟩
    case round =>
      obtain ⟨j, hj, M1, C1⟩ := hrel
      have R1 : Row wr p 0 (stmCells (run iv T j) (T.drop (64 * j)) mT) := by rw [HM.out]; exact M1
      have k8 := stm8 (HIV.out j) R1
      have g8 := R1.free0 (i := 8) (by rw [stmCells_length _ (HIV.out j)]; omega)
      obtain ⟨rj, hrj⟩ : ∃ rj, rj = bstr (T.drop (64 * j)) := ⟨_, rfl⟩
      rw [← hrj] at k8
      have hrjs : rj.size = mT - 64 * j := by rw [hrj, bstr_size, List.length_drop, HM.out]
      by_cases hlt : 64 * j + 64 ≤ mT
      · have hge : 64 ≤ rj.size := by omega
        have hle : rj.size ≤ 1000000000000 := by omega
        have HRS := Lib.hid hrjs
        have HRJ := Lib.hid hrj
        have HR1 := Lib.hid R1
        clear hrj hrjs M1 R1
        have hx1 : rj.extract 0 64 = bstr ((T.drop (64 * j)).take 64) := by rw [HRJ.out]; exact bstr_take _ _
        have hx2 : rj.extract 64 rj.size = bstr (T.drop (64 * (j + 1))) := by rw [HRJ.out, bstr_drop, List.drop_drop, show 64 * j + 64 = 64 * (j + 1) by omega]
        obtain ⟨hj0, hhj0⟩ : ∃ hj0, hj0 = run iv T j := ⟨_, rfl⟩
        obtain ⟨B, hB⟩ : ∃ B, B = (T.drop (64 * j)).take 64 := ⟨_, rfl⟩
        have hB64 : B.length = 64 := by rw [hB, List.length_take, List.length_drop, ← HM.out]; omega
        obtain ⟨hj1, hhj1⟩ : ∃ hj1, hj1 = comp hj0 B := ⟨_, rfl⟩
        have hnext : hj1 = run iv T (j + 1) := by rw [hhj1, hhj0, hB, run_snoc]
        obtain ⟨b64, hb64⟩ : ∃ b64, b64 = bstr B := ⟨_, rfl⟩
        obtain ⟨r2, hr2⟩ : ∃ r2, r2 = bstr (T.drop (64 * (j + 1))) := ⟨_, rfl⟩
        obtain ⟨hv, hhv⟩ : ∃ hv, hv = (wcells hj0).toArray := ⟨_, rfl⟩
        obtain ⟨hv1, hhv1⟩ : ∃ hv1, hv1 = (wcells hj1).toArray := ⟨_, rfl⟩
        rw [← hB, ← hb64] at hx1
        rw [← hr2] at hx2
        have hl0 : hj0.length = 8 := by rw [hhj0]; exact HIV.out j
        have hl1 : hj1.length = 8 := by rw [hnext]; exact HIV.out _
        have hr2s : r2.size < rj.size := by rw [hr2, bstr_size, List.length_drop, HRS.out, ← HM.out]; omega
        have R1 := HR1.out
        rw [← hhj0] at R1
        have HH := Lib.hid (⟨hB64, hhj1, hnext, hb64, hr2, hhv, hhv1, hl0, hl1, hhj0⟩ : _ ∧ _ ∧ _ ∧ _ ∧ _ ∧ _ ∧ _ ∧ _ ∧ _ ∧ _)
        have HX2 := Lib.hid hx2
        have HR2 := Lib.hid hr2s
        have HRX := Lib.hid R1
        clear hB64 hhj1 hnext hb64 hr2 hhv hhv1 hl0 hl1 hhj0 hB hx2 HR1 hr2s R1
        go_wp2
        refine Lin.region_lin [0, 0, 2, 6, 14, 0, 32, 96, 224, 480, 1022, 2046, 4094, 4094, 8191, 24575, 57343] [] [16] (fun k => k = p) (fun e w' => Row w' p 0 (stmCells (two hj0 hj1 e) (T.drop (64 * j)) mT) ∧ KTab w') _ (by kernel_rfl) rfl (by kernel_rfl) (⟨HRX.out.drew, (HK.out.keep C1 hgp).keep (Chgd.refl (fun _ => False) _).drew (fun h => h)⟩) ?_
        -- 0 37:move
        (refine Lin.walk_pure ?_ (by kernel_rfl) (by kernel_rfl) (by rfl) ?_ ?_; rotate_left; (focus (intro w; (go_simp; (try go_ints); (try simp only [IntWalk.iteOmega]); (try go_simp); try with_reducible rfl))); (intro S' hS'; simp only [Act.put, List.setIfInBounds_toArray, List.set_cons_zero, List.set_cons_succ] at hS'; subst hS'))
        -- 1 38:move
        (refine Lin.walk_pure ?_ (by kernel_rfl) (by kernel_rfl) (by rfl) ?_ ?_; rotate_left; (focus (intro w; (go_simp; (try go_ints); (try simp only [IntWalk.iteOmega]); (try go_simp); try with_reducible rfl))); (intro S' hS'; simp only [Act.put, List.setIfInBounds_toArray, List.set_cons_zero, List.set_cons_succ] at hS'; subst hS'))
        -- 2 39:nilCheck
        (refine Lin.walk_pure ?_ (by kernel_rfl) (by kernel_rfl) (by rfl) ?_ ?_; rotate_left; (focus (intro w; (go_simp; (try go_ints); (try simp only [IntWalk.iteOmega]); (try go_simp); try with_reducible rfl))); (intro S' hS'; simp only [Act.put, List.setIfInBounds_toArray, List.set_cons_zero, List.set_cons_succ] at hS'; subst hS'))
        -- 3 40:fieldAddr
        (refine Lin.walk_pure ?_ (by kernel_rfl) (by kernel_rfl) (by rfl) ?_ ?_; rotate_left; (focus (intro w; (go_simp; (try go_ints); (try simp only [IntWalk.iteOmega]); (try go_simp); try with_reducible rfl))); (intro S' hS'; simp only [Act.put, List.setIfInBounds_toArray, List.set_cons_zero, List.set_cons_succ] at hS'; subst hS'))
        -- 4 41:load
        (refine Lin.walk_read (.agg hv) (by kernel_rfl) (by kernel_rfl) (by kernel_rfl) (by rfl) ?_ ?_; (focus (intro w1 hC hI; rw [HH.out.2.2.2.2.2.1]; exact exec_loadRow 37 (.tmp 40) rfl p 0 rfl (wcells hj0) (Row.left (xs := wcells hj0) hI.1) _ Tryd.underlying37 rfl 8 size8 (by rw [wcells_length]; exact HH.out.2.2.2.2.2.2.2.1))); (intro S' hS'; simp only [Act.put, List.setIfInBounds_toArray, List.set_cons_zero, List.set_cons_succ] at hS'; subst hS'))
        -- 5 42:move
        (refine Lin.walk_pure ?_ (by kernel_rfl) (by kernel_rfl) (by rfl) ?_ ?_; rotate_left; (focus (intro w; (go_simp; (try go_ints); (try simp only [IntWalk.iteOmega]); (try go_simp); try with_reducible rfl))); (intro S' hS'; simp only [Act.put, List.setIfInBounds_toArray, List.set_cons_zero, List.set_cons_succ] at hS'; subst hS'))
        -- 6 43:nilCheck
        (refine Lin.walk_pure ?_ (by kernel_rfl) (by kernel_rfl) (by rfl) ?_ ?_; rotate_left; (focus (intro w; (go_simp; (try go_ints); (try simp only [IntWalk.iteOmega]); (try go_simp); try with_reducible rfl))); (intro S' hS'; simp only [Act.put, List.setIfInBounds_toArray, List.set_cons_zero, List.set_cons_succ] at hS'; subst hS'))
        -- 7 44:fieldAddr
        (refine Lin.walk_pure ?_ (by kernel_rfl) (by kernel_rfl) (by rfl) ?_ ?_; rotate_left; (focus (intro w; (go_simp; (try go_ints); (try simp only [IntWalk.iteOmega]); (try go_simp); try with_reducible rfl))); (intro S' hS'; simp only [Act.put, List.setIfInBounds_toArray, List.set_cons_zero, List.set_cons_succ] at hS'; subst hS'))
        -- 8 45:load
        (refine Lin.walk_read ?_ (by kernel_rfl) (by kernel_rfl) (by kernel_rfl) (by rfl) ?_ ?_; rotate_left; (focus (intro w1 hC hI; have c1 := stm8 HH.out.2.2.2.2.2.2.2.1 hI.1; rw [← HRJ.out] at c1; (go_simp; (try go_ints); (try simp only [IntWalk.iteOmega]); (try go_simp); try with_reducible rfl))); (intro S' hS'; simp only [Act.put, List.setIfInBounds_toArray, List.set_cons_zero, List.set_cons_succ] at hS'; subst hS'))
        -- 9 46:slice
        (refine Lin.walk_pure ?_ (by kernel_rfl) (by kernel_rfl) (by rfl) ?_ ?_; rotate_left; (focus (intro w; (go_simp; (try go_ints); (try simp only [IntWalk.iteOmega]); (try go_simp); try with_reducible rfl))); (intro S' hS'; simp only [Act.put, List.setIfInBounds_toArray, List.set_cons_zero, List.set_cons_succ] at hS'; subst hS'))
        -- 10 47:call!
        (refine Lin.walk_call (.tuple #[.agg hv1, .bool true]) (by kernel_rfl) (by kernel_rfl) (by kernel_rfl) (by rfl) ?_ ?_; (focus (intro w1 hC hI; dsimp only at hC hI; go_simp; have c := comp_any hj0 HH.out.2.2.2.2.2.2.2.1 B HH.out.1 w1 hI.2; rw [← HH.out.2.1, ← HH.out.2.2.2.1, ← HH.out.2.2.2.2.2.1, ← HH.out.2.2.2.2.2.2.1] at c; exact Calls.mono c (by rintro e w2 ⟨rfl, hN⟩; exact ⟨_, rfl, rfl, hN.mono (fun _ _ h => h.elim), hI.1.keep hN (fun h => h), hI.2.keep hN (fun h => h)⟩))); (intro S' hS'; simp only [Act.put, List.setIfInBounds_toArray, List.set_cons_zero, List.set_cons_succ] at hS'; subst hS'))
        -- 11 36:move
        (refine Lin.walk_pure ?_ (by kernel_rfl) (by kernel_rfl) (by rfl) ?_ ?_; rotate_left; (focus (intro w; (go_simp; (try go_ints); (try simp only [IntWalk.iteOmega]); (try go_simp); try with_reducible rfl))); (intro S' hS'; simp only [Act.put, List.setIfInBounds_toArray, List.set_cons_zero, List.set_cons_succ] at hS'; subst hS'))
        -- 12 48:extract
        (refine Lin.walk_pure ?_ (by kernel_rfl) (by kernel_rfl) (by rfl) ?_ ?_; rotate_left; (focus (intro w; (go_simp; (try go_ints); (try simp only [IntWalk.iteOmega]); (try go_simp); try with_reducible rfl))); (intro S' hS'; simp only [Act.put, List.setIfInBounds_toArray, List.set_cons_zero, List.set_cons_succ] at hS'; subst hS'))
        -- 13 49:extract
        (refine Lin.walk_pure ?_ (by kernel_rfl) (by kernel_rfl) (by rfl) ?_ ?_; rotate_left; (focus (intro w; (go_simp; (try go_ints); (try simp only [IntWalk.iteOmega]); (try go_simp); try with_reducible rfl))); (intro S' hS'; simp only [Act.put, List.setIfInBounds_toArray, List.set_cons_zero, List.set_cons_succ] at hS'; subst hS'))
        -- 14 50:nilCheck
        (refine Lin.walk_pure ?_ (by kernel_rfl) (by kernel_rfl) (by rfl) ?_ ?_; rotate_left; (focus (intro w; (go_simp; (try go_ints); (try simp only [IntWalk.iteOmega]); (try go_simp); try with_reducible rfl))); (intro S' hS'; simp only [Act.put, List.setIfInBounds_toArray, List.set_cons_zero, List.set_cons_succ] at hS'; subst hS'))
        -- 15 51:fieldAddr
        (refine Lin.walk_pure ?_ (by kernel_rfl) (by kernel_rfl) (by rfl) ?_ ?_; rotate_left; (focus (intro w; (go_simp; (try go_ints); (try simp only [IntWalk.iteOmega]); (try go_simp); try with_reducible rfl))); (intro S' hS'; simp only [Act.put, List.setIfInBounds_toArray, List.set_cons_zero, List.set_cons_succ] at hS'; subst hS'))
        -- 16 -:store
        (refine Lin.walk_last [] undef (by kernel_rfl) rfl (by kernel_rfl) (fun _ => by rfl) ?_ ?_; (focus (intro f w1 hF hC hI; dsimp only at hC hI; clear hF; have hI1 : Row w1 p 0 (stmCells hj0 (T.drop (64 * j)) mT) := hI.1; have hR8 := (Row.left (xs := wcells hj0) hI1); have hRR := (Row.right (xs := wcells hj0) hI1); have hl := HH.out.2.2.2.2.2.2.2.1; refine gives_storeRow 37 (.tmp 51) (.tmp 48) rfl p 0 (wcells hj0) (wcells hj1) rfl (by show Value.agg hv1 = _; rw [HH.out.2.2.2.2.2.2.1]) hR8 8 size8 (by rw [wcells_length]; exact hl) (by rw [wcells_length]; exact HH.out.2.2.2.2.2.2.2.2.1) (wcells_one _) (fun w2 h1 h2 h3 h4 => ⟨rfl, h4, ?_, hI.2.keep h4 hgp⟩); have hRR' := hRR.beside h2 h3 (by rw [wcells_length, hl]; omega); rw [wcells_length, hl] at hRR'; show Row w2 p 0 (stmCells hj1 (T.drop (64 * j)) mT); exact Row.join h1 (by rw [wcells_length, HH.out.2.2.2.2.2.2.2.2.1]; exact hRR'))); (intro S' hS'; simp only [Act.put] at hS'; subst hS'))
        (refine Lin.walk_end0 rfl ?_; intro W' hC hI)
        replace C1 := C1.trans hC (fun _ _ h => h)
        have R2 : Row W' p 0 (stmCells hj1 (T.drop (64 * j)) mT) := hI.1
        clear hI hC
        have c2 := stm8 HH.out.2.2.2.2.2.2.2.2.1 R2
        rw [← HRJ.out] at c2
        have f2 := R2.free0 (i := 8) (by rw [stmCells_length _ HH.out.2.2.2.2.2.2.2.2.1]; omega)
        have R3 := Lib.hid (stm_set8 HH.out.2.2.2.2.2.2.2.2.1 R2 (T.drop (64 * (j + 1))))
        clear R2 hx1
        have hx2 := HX2.out
        go_wp2
        go_roundw
        case rel =>
          refine ⟨j + 1, by omega, ?_, C1.trans (Chgd.one _ _ _ _) (fun _ _ h => h)⟩
          unfold Mid
          rw [← HH.out.2.2.1, HH.out.2.2.2.2.1, ← HM.out]
          exact R3.out
        case measure =>
          have e1 : (W'.setCell ⟨p, 8, none⟩ (.string r2)).cell? ⟨p, 8, none⟩ = some (.string r2) := World.cell?_setCell_same _ _ _ c2
          rw [e1, k8]
          exact HR2.out
      · have hlt2 : rj.size < 64 := by omega
        have HRS := Lib.hid hrjs
        clear hrj hrjs
        go_wp2
        go_end0
        refine ⟨rfl, ⟨run iv T j, HIV.out j, fun _ => ?_, ?_⟩, C1⟩
        · rw [← HM.out, show mT / 64 = j by omega]
        · rw [← HM.out, show mT / 64 = j by omega]; exact R1
end Go.Proofs.YtomalanncdcopaaDoor.Dig
