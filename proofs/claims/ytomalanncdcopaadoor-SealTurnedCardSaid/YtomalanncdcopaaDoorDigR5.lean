/- The contract of the reference's Sum, and of Compress where a block has another length. -/
import Derived.Test.YtomalanncdcopaaDoorDigR4
import Derived.Test.YtomalanncdcopaaDoorLin2W
set_option linter.unusedSimpArgs false
set_option linter.unusedVariables false
namespace Go.Proofs.YtomalanncdcopaaDoor.Dig
open Go Go.RowKit Go.Proofs.YtomalanncdcopaaDoor.Mem

theorem refout_byte (h : List Word) (i s : Nat) (hs : s = 24 - 8 * (i % 4)) (q : Nat) (hq : q = i / 4) : (wn (wat h q >>> s)) % 256 = ((outAt h i).toNat : Int) := by
  subst hs hq
  rw [← w_shr]
  unfold outAt wn
  have e : (2 : Int) ^ (24 - 8 * (i % 4)) = ((2 ^ (24 - 8 * (i % 4)) : Nat) : Int) := by simp
  rw [e]
  simp

set_option maxRecDepth 100000 in
set_option maxHeartbeats 4000000 in
theorem refsha_any (l : List UInt8) (hl : l.length ≤ 1000000000) (w : World) :
    Calls Tryd.prog 18 #[.string (bstr l)] w fun r w' => r = .returned (.agg (cellsOf (sha l)).toArray) ∧ OnlyNew w w' := by
  obtain ⟨b, hb⟩ : ∃ b, b = bstr l := ⟨_, rfl⟩
  rw [← hb]
  obtain ⟨rv, hrv⟩ : ∃ rv, rv = (cellsOf (sha l)).toArray := ⟨_, rfl⟩
  rw [← hrv]
  obtain ⟨X, hX⟩ : ∃ X, X = pad l := ⟨_, rfl⟩
  obtain ⟨n, hn⟩ : ∃ n, n = X.length / 64 := ⟨_, rfl⟩
  have hXn : X.length = 64 * n := by
    rw [hn, hX, pad_length]
    have := zeros_hit l.length
    omega
  have hn1 : n ≤ 100000000 := by
    have := zeros_lt l.length
    have := pad_length l
    rw [← hX] at this
    omega
  have hsha : sha l = hashOf (run iv X n) := by rw [sha, hn, hX]
  obtain ⟨P, hP⟩ : ∃ P, P = bstr X := ⟨_, rfl⟩
  have hPs : P.size = 64 * n := by rw [hP, bstr_size, hXn]
  have H1 := Lib.hid (⟨hb, hrv, hX, hsha, hP, hXn⟩ : _ ∧ _ ∧ _ ∧ _ ∧ _ ∧ _)
  have HPS := Lib.hid hPs
  clear hb hrv hX hsha hP hn hXn hPs
  obtain ⟨ivv, hivv⟩ : ∃ ivv, ivv = (wcells64 iv).toArray := ⟨_, rfl⟩
  have HIV := Lib.hid hivv
  clear hivv
  go_enter Tryd.func18, Tryd.ntmps18
  go_wp2_with (first
    | (refine wpList_storeRow rfl 51 (.tmp 3) (.tmp 10) rfl (w.heap.size + 1) 0 _ (wcells64 iv) rfl rfl (Row.newAt _ _ _ _ _ (by simp) rfl) 8 size8v rfl rfl (wcells64_one _) ?_; intro w1 B3 _ _ c1; have B2 := ((Row.newAt w _ 24 (cellsOf (List.replicate 32 0)) w.heap.size rfl rfl).alloc _).keep c1 (fun e => by omega); have C1 : OnlyNew w w1 := (((Chgd.refl (fun _ => False) w).alloc _).alloc _).trans c1 (fun j hj e => by omega); clear c1)
    | (go_at_call 25; rw [H1.out.1]; refine (refpad_any l (by omega) _).mono ?_; rintro e w2 ⟨rfl, c2⟩; rw [← H1.out.1, ← H1.out.2.2.1, ← H1.out.2.2.2.2.1]; replace B2 := B2.keep c2 (fun h => h); replace B3 := B3.keep c2 (fun h => h); replace C1 := C1.trans c2 (fun _ _ h => h); clear c2))
  obtain ⟨w3, rfl⟩ : ∃ x : World, x = w2 := ⟨_, rfl⟩
  go_loopw [5] (fun i wr => ∃ j : Nat, j ≤ n ∧ i = .int .i64 (64 * j : Nat) ∧ Row wr (w.heap.size + 1) 0 (wcells64 (run iv X j)) ∧ Row wr w.heap.size 0 (cellsOf (List.replicate 32 0)) ∧ OnlyNew w wr) (fun i _ => 64 * n - (intOf i).toNat)
  case atStart => exact ⟨0, Nat.zero_le _, rfl, B3, B2, C1⟩
  case round =>
    obtain ⟨j, hj, rfl, B3a, B2a, C2⟩ := hrel
    clear B3 B2 C1
    by_cases hlt : j < n
    ·
      obtain ⟨o, ho⟩ : ∃ o, o = 64 * j := ⟨_, rfl⟩
      rw [← ho]
      have hPS := HPS.out
      have ho1 : o + 64 ≤ P.size := by omega
      have ho2 : P.size ≤ 6400000000 := by omega
      obtain ⟨Bk, hBk⟩ : ∃ Bk, Bk = (X.drop o).take 64 := ⟨_, rfl⟩
      have hBkl : Bk.length = 64 := by rw [hBk, List.length_take, List.length_drop, H1.out.2.2.2.2.2]; omega
      obtain ⟨b64, hb64⟩ : ∃ b64, b64 = bstr Bk := ⟨_, rfl⟩
      have hx1 : P.extract o (o + 64) = b64 := by
        rw [H1.out.2.2.2.2.1, hb64, hBk]
        apply ByteArray.ext
        simp [bstr, ByteArray.data_extract, List.extract_eq_take_drop]
      obtain ⟨hj0, hhj0⟩ : ∃ hj0, hj0 = run iv X j := ⟨_, rfl⟩
      obtain ⟨hj1, hhj1⟩ : ∃ hj1, hj1 = comp hj0 Bk := ⟨_, rfl⟩
      have hnext : hj1 = run iv X (j + 1) := by rw [hhj1, hhj0, hBk, ho, run_snoc]
      obtain ⟨av, hav⟩ : ∃ av, av = (wcells64 hj0).toArray := ⟨_, rfl⟩
      obtain ⟨av1, hav1⟩ : ∃ av1, av1 = (wcells64 hj1).toArray := ⟨_, rfl⟩
      have hl0 : hj0.length = 8 := by rw [hhj0, run_length]; rfl
      have hl1 : hj1.length = 8 := by rw [hnext, run_length]; rfl
      rw [← hhj0] at B3a
      have HH := Lib.hid (⟨hBkl, hhj1, hnext, hb64, hav, hav1, hl0, hl1⟩ : _ ∧ _ ∧ _ ∧ _ ∧ _ ∧ _ ∧ _ ∧ _)
      have HX1 := Lib.hid hx1
      have HO := Lib.hid (⟨ho, hPS⟩ : _ ∧ _)
      clear hBkl hhj1 hnext hb64 hav hav1 hl0 hl1 hhj0 hBk ho hx1 hPS
      have hb3 := B3a.lt (by rw [wcells64_length, HH.out.2.2.2.2.2.2.1]; omega)
      go_wp2_with fail
      have hx1 := HX1.out
      refine Lin2.region_lin [0, 0, 0, 0, 8, 30, 63, 127, 255, 255, 0, 1535, 4095] [10] [11] (fun _ => False) (fun _ w' => Row w' (w.heap.size + 1) 0 (wcells64 hj0)) (fun _ _ _ h hc => h.keep hc (fun h => h)) _ (by kernel_rfl) rfl (by kernel_rfl) (B3a.drew) ?_
      -- 0 20:load
      (refine Lin2.walk_read (.agg av) 0 0 (by kernel_rfl) (by kernel_rfl) (by kernel_rfl) (by kernel_rfl) (by rfl) ?_ ?_; (focus (intro w1 k1 hC hk1 hk2 hI; obtain rfl : k1 = 0 := (by omega); dsimp only at hC hI; rw [HH.out.2.2.2.2.1]; exact exec_loadRow 51 (.tmp 3) rfl (w.heap.size + 1) 0 rfl (wcells64 hj0) hI _ Tryd.underlying51 rfl 8 size8v (by rw [wcells64_length]; exact HH.out.2.2.2.2.2.2.1))); (intro S' hS'; simp only [Act.put, List.setIfInBounds_toArray, List.set_cons_zero, List.set_cons_succ] at hS'; subst hS'))
      -- 1 21:move
      (refine Lin2.walk_pure ?_ (by kernel_rfl) (by kernel_rfl) (by rfl) ?_ ?_; rotate_left; (focus (intro w; (go_simp; (try go_ints); (try simp only [IntWalk.iteOmega]); (try go_simp); try with_reducible rfl))); (intro S' hS'; simp only [Act.put, List.setIfInBounds_toArray, List.set_cons_zero, List.set_cons_succ] at hS'; subst hS'))
      -- 2 22:move
      (refine Lin2.walk_pure ?_ (by kernel_rfl) (by kernel_rfl) (by rfl) ?_ ?_; rotate_left; (focus (intro w; (go_simp; (try go_ints); (try simp only [IntWalk.iteOmega]); (try go_simp); try with_reducible rfl))); (intro S' hS'; simp only [Act.put, List.setIfInBounds_toArray, List.set_cons_zero, List.set_cons_succ] at hS'; subst hS'))
      -- 3 23:move
      (refine Lin2.walk_pure ?_ (by kernel_rfl) (by kernel_rfl) (by rfl) ?_ ?_; rotate_left; (focus (intro w; (go_simp; (try go_ints); (try simp only [IntWalk.iteOmega]); (try go_simp); try with_reducible rfl))); (intro S' hS'; simp only [Act.put, List.setIfInBounds_toArray, List.set_cons_zero, List.set_cons_succ] at hS'; subst hS'))
      -- 4 24:binOp
      (refine Lin2.walk_pure ?_ (by kernel_rfl) (by kernel_rfl) (by rfl) ?_ ?_; rotate_left; (focus (intro w; (go_simp; (try go_ints); (try simp only [IntWalk.iteOmega]); (try go_simp); try with_reducible rfl))); (intro S' hS'; simp only [Act.put, List.setIfInBounds_toArray, List.set_cons_zero, List.set_cons_succ] at hS'; subst hS'))
      -- 5 25:slice
      (refine Lin2.walk_pure ?_ (by kernel_rfl) (by kernel_rfl) (by rfl) ?_ ?_; rotate_left; (focus (intro w; (go_simp; (try go_ints); (try simp only [IntWalk.iteOmega]); (try go_simp); try with_reducible rfl))); (intro S' hS'; simp only [Act.put, List.setIfInBounds_toArray, List.set_cons_zero, List.set_cons_succ] at hS'; subst hS'))
      -- 6 26:call!
      (refine Lin2.walk_call [] (.tuple #[.agg av1, .bool true]) 0 0 (by kernel_rfl) (by kernel_rfl) (by kernel_rfl) (by kernel_rfl) (fun _ => by rfl) ?_ ?_; (focus (intro f w1 k1 hF hC hk1 hk2 hI; obtain rfl : k1 = 0 := (by omega); dsimp only at hC hI; clear hF; simp only [Lin2.over_nil]; go_simp; have c := refcomp_any hj0 HH.out.2.2.2.2.2.2.1 Bk HH.out.1 w1; rw [← HH.out.2.1, ← HH.out.2.2.2.1, ← HH.out.2.2.2.2.1, ← HH.out.2.2.2.2.2.1] at c; exact Calls.mono c (by rintro e w2 ⟨rfl, hN⟩; exact ⟨_, rfl, rfl, hN⟩))); (intro S' hS'; simp only [Act.put, List.setIfInBounds_toArray, List.set_cons_zero, List.set_cons_succ] at hS'; subst hS'))
      -- 7 19:move
      (refine Lin2.walk_pure ?_ (by kernel_rfl) (by kernel_rfl) (by rfl) ?_ ?_; rotate_left; (focus (intro w; (go_simp; (try go_ints); (try simp only [IntWalk.iteOmega]); (try go_simp); try with_reducible rfl))); (intro S' hS'; simp only [Act.put, List.setIfInBounds_toArray, List.set_cons_zero, List.set_cons_succ] at hS'; subst hS'))
      -- 8 27:extract
      (refine Lin2.walk_pure ?_ (by kernel_rfl) (by kernel_rfl) (by rfl) ?_ ?_; rotate_left; (focus (intro w; (go_simp; (try go_ints); (try simp only [IntWalk.iteOmega]); (try go_simp); try with_reducible rfl))); (intro S' hS'; simp only [Act.put, List.setIfInBounds_toArray, List.set_cons_zero, List.set_cons_succ] at hS'; subst hS'))
      -- 9 28:extract
      (refine Lin2.walk_pure ?_ (by kernel_rfl) (by kernel_rfl) (by rfl) ?_ ?_; rotate_left; (focus (intro w; (go_simp; (try go_ints); (try simp only [IntWalk.iteOmega]); (try go_simp); try with_reducible rfl))); (intro S' hS'; simp only [Act.put, List.setIfInBounds_toArray, List.set_cons_zero, List.set_cons_succ] at hS'; subst hS'))
      -- 10 6:alloc
      (refine Lin2.walk_fact [] 6 (Lin2.NewVar wr.heap.size (wcells64 zero8) (wcells64 hj1) 0) 0 0 (by kernel_rfl) (by kernel_rfl) rfl (by kernel_rfl) (by kernel_rfl) (by kernel_rfl) (by kernel_rfl) (by kernel_rfl) (fun _ => by rfl) (Lin2.NewVar.keep) ?_ ?_; (focus (intro f w1 k1 hF hC hk1 hk2 hI; obtain rfl : k1 = 0 := (by omega); dsimp only at hC hI; clear hF; simp only [Lin2.over_nil]; go_simp; exact ⟨⟨_, rfl, hC.size, Row.newAt _ _ _ _ _ rfl rfl⟩, (Chgd.refl _ _).alloc _⟩)); (intro S' hS'; simp only [Act.put, List.setIfInBounds_toArray, List.set_cons_zero, List.set_cons_succ] at hS'; subst hS'))
      -- 11 -:store
      (refine Lin2.walk_eff [6] (undef) 0 (by kernel_rfl) (by kernel_rfl) (by kernel_rfl) (by kernel_rfl) (fun _ => by rfl) ?_ ?_; (focus (intro f w1 hF hC hI; dsimp only at hC hI; obtain ⟨v', hv', B, rfl, hB, hRow⟩ : ∃ v, [f 6] = [v] ∧ Lin2.NewVar wr.heap.size (wcells64 zero8) (wcells64 hj1) 0 v w1 0 := hF 10 (by decide) (by kernel_rfl); have h64 := List.singleton_inj.1 hv'; clear hF hv'; exact Lin2.gives_old (gives_storeRow 51 (.tmp 6) (.tmp 27) rfl B 0 (wcells64 zero8) (wcells64 hj1) (by show f 6 = _; exact h64) (by show Value.agg av1 = _; rw [HH.out.2.2.2.2.2.1]) (show Row w1 B 0 (wcells64 zero8) from hRow) 8 size8v rfl (by rw [wcells64_length]; exact HH.out.2.2.2.2.2.2.2) (wcells64_one _) (fun w2 h1 h2 h3 h4 => ⟨rfl, hC.trans h4 (fun j hj e => by omega), hI.keep h4 (fun e => by omega), fun i hi _ _ => by obtain rfl : i = 10 := (by simpa using hi); exact ⟨_, congrArg (fun x => [x]) h64, B, rfl, hB, h1⟩⟩)))); (intro S' hS'; simp only [Act.put] at hS'; subst hS'))
      -- 12 7:assign
      (refine Lin2.walk_pure ?_ (by kernel_rfl) (by kernel_rfl) (by rfl) ?_ ?_; rotate_left; (focus (intro w; (go_simp; (try go_ints); (try simp only [IntWalk.iteOmega]); (try go_simp); try with_reducible rfl))); (intro S' hS'; simp only [Act.put, List.setIfInBounds_toArray, List.set_cons_zero, List.set_cons_succ] at hS'; subst hS'))
      (refine Lin2.walk_end1 [6] (by kernel_rfl) ?_; intro f W' hF hC hI; dsimp only at hC hI; intro S' hS'; simp only [Lin2.over, List.foldl, Act.put, List.setIfInBounds_toArray, List.set_cons_zero, List.set_cons_succ] at hS'; subst hS')
      obtain ⟨v', hv', B, rfl, hB, hRow⟩ : ∃ v, [f 6] = [v] ∧ Lin2.NewVar wr.heap.size (wcells64 zero8) (wcells64 hj1) 0 v W' 1 := hF 10 (by decide)
      have h64 := List.singleton_inj.1 hv'
      have hRow : Row W' B 0 (wcells64 hj1) := hRow
      rw [h64]
      clear hF hv' h64 f hx1
      replace C2 := C2.trans hC (fun _ _ h => h)
      have B2x := B2a.keep hC (fun h => h)
      have B3x : Row W' (w.heap.size + 1) 0 (wcells64 hj0) := hI
      clear hI hC B2a B3a
      have HNN := Lib.hid (show 64 * j + 64 = 64 * (j + 1) by omega)
      go_wp2_with (first
        | (refine wpList_loadRow rfl 51 (.tmp 6) rfl B 0 rfl _ hRow _ Tryd.underlying51 rfl 8 size8v (by rw [wcells64_length]; exact HH.out.2.2.2.2.2.2.2) ?_; rw [← HH.out.2.2.2.2.2.1])
        | (refine wpList_storeRow rfl 51 (.tmp 3) (.tmp 29) rfl (w.heap.size + 1) 0 _ (wcells64 hj1) rfl (by show Value.agg av1 = _; rw [HH.out.2.2.2.2.2.1]) B3x 8 size8v (by rw [wcells64_length]; exact HH.out.2.2.2.2.2.2.1) (by rw [wcells64_length]; exact HH.out.2.2.2.2.2.2.2) (wcells64_one _) ?_; intro w8 B8 _ _ c8; replace C2 := C2.trans c8 (fun j hj e => by omega); replace B2x := B2x.keep c8 (fun e => by omega)))
      go_roundw
      case rel =>
        refine ⟨j + 1, by omega, ?_, by rw [← HH.out.2.2.1]; exact B8, B2x, C2⟩
        rw [← HNN.out, ← HO.out.1]
        go_num
      case measure => have := HO.out; simp [intOf]; omega
    · obtain rfl : j = n := by omega
      obtain ⟨hf, hhf⟩ : ∃ hf, hf = run iv X j := ⟨_, rfl⟩
      have hfl : hf.length = 8 := by rw [hhf, run_length]; rfl
      rw [← hhf] at B3a
      have HF := Lib.hid (⟨hhf, hfl⟩ : _ ∧ _)
      have hb3 := B3a.lt (by rw [wcells64_length, hfl]; omega)
      have hPS := HPS.out
      obtain ⟨m, hm⟩ : ∃ m, m = 64 * j := ⟨_, rfl⟩
      rw [← hm] at hPS ⊢
      have hm1 : m ≤ 6400000000 := by omega
      clear hhf hfl hm hlt hj
      go_wp2_with (first
        | (refine wpList_storeRow rfl 24 (.tmp 8) (.tmp 30) rfl wr.heap.size 0 _ (cellsOf (outs hf 0)) rfl rfl (Row.newAt _ _ _ _ _ rfl rfl) 32 size32 rfl rfl (cellsOf_one _) ?_; intro w4 B8 _ _ c4; replace c4 := ((Chgd.refl (fun _ => False) wr).alloc _).trans c4 (fun j hj e => by omega); have C4 := C2.trans c4 (fun _ _ h => h); have B2b := B2a.keep c4 (fun h => h); have B3b := B3a.keep c4 (fun h => h); clear c4 B2a B3a C2))
      generalize Value.agg #[Value.int .u8 0, Value.int .u8 0, Value.int .u8 0, Value.int .u8 0, Value.int .u8 0, Value.int .u8 0, Value.int .u8 0, Value.int .u8 0, Value.int .u8 0, Value.int .u8 0, Value.int .u8 0, Value.int .u8 0, Value.int .u8 0, Value.int .u8 0, Value.int .u8 0, Value.int .u8 0, Value.int .u8 0, Value.int .u8 0, Value.int .u8 0, Value.int .u8 0, Value.int .u8 0, Value.int .u8 0, Value.int .u8 0, Value.int .u8 0, Value.int .u8 0, Value.int .u8 0, Value.int .u8 0, Value.int .u8 0, Value.int .u8 0, Value.int .u8 0, Value.int .u8 0, Value.int .u8 0] = zz
      obtain ⟨w5, rfl⟩ : ∃ x : World, x = wr := ⟨_, rfl⟩
      go_loopw [9] (fun i wr => ∃ k : Nat, k ≤ 32 ∧ i = .int .i64 k ∧ Row wr w5.heap.size 0 (cellsOf (outs hf k)) ∧ Row wr (w.heap.size + 1) 0 (wcells64 hf) ∧ Row wr w.heap.size 0 (cellsOf (List.replicate 32 0)) ∧ OnlyNew w wr) (fun i _ => 32 - (intOf i).toNat)
      case atStart => exact ⟨0, Nat.zero_le _, rfl, B8, B3b, B2b, C4⟩
      case round =>
        obtain ⟨k, hk, rfl, B8a, B3c, B2c, C5⟩ := hrel
        clear B8 B3b B2b C4
        by_cases hlt : k < 32
        · obtain ⟨q, hq⟩ : ∃ q, q = k / 4 := ⟨_, rfl⟩
          obtain ⟨r, hr⟩ : ∃ r, r = k % 4 := ⟨_, rfl⟩
          obtain ⟨s, hs⟩ : ∃ s, s = 24 - 8 * r := ⟨_, rfl⟩
          have hq1 : q < 8 := by omega
          have hr1 : r ≤ 3 := by omega
          have hs1 : s ≤ 24 := by omega
          have eq1 : (k : Int) / 4 = (q : Int) := by omega
          have er1 : (k : Int) % 4 = (r : Int) := by omega
          have es1 : (24 : Int) - 8 * (r : Int) = (s : Int) := by omega
          obtain ⟨x, hx⟩ : ∃ x, x = wat hf q := ⟨_, rfl⟩
          obtain ⟨y, hy⟩ : ∃ y, y = x >>> s := ⟨_, rfl⟩
          obtain ⟨c, hc⟩ : ∃ c, c = outAt hf k := ⟨_, rfl⟩
          obtain ⟨cn, hcn⟩ : ∃ cn, cn = c.toNat := ⟨_, rfl⟩
          have hcn1 : cn < 256 := by rw [hcn]; exact c.toNat_lt
          have eb : (wn y).tmod 256 = (cn : Int) := by
            rw [Int.tmod_eq_emod_of_nonneg (wn_bd y).1, hcn, hc, hy, hx]
            exact refout_byte hf k s (by rw [hs, hr]) q hq
          have HQ := Lib.hid (⟨hx, hy, hc, hcn⟩ : _ ∧ _ ∧ _ ∧ _)
          have HE := Lib.hid (⟨eq1, er1, es1, eb⟩ : _ ∧ _ ∧ _ ∧ _)
          have HB8 := Lib.hid B8a
          have HB3 := Lib.hid B3c
          clear hx hy hc hcn eq1 er1 es1 eb hq hr hs B8a B3c
          go_upto_region 12 with (fail)
          obtain ⟨eq1, er1, es1, eb⟩ := HE.out
          refine Lin.region_seq [0, 0, 2, 6, 14, 0, 32, 96, 224, 510, 1022, 2046, 4095, 8191] [] [13] (fun j => j = w5.heap.size) (fun e w' => Row w' w5.heap.size 0 (cellsOf (outs hf (k + e))) ∧ Row w' (w.heap.size + 1) 0 (wcells64 hf)) _ rfl (by kernel_rfl) (⟨HB8.out, HB3.out⟩) ?_
          -- 0 35:move
          (refine Lin.walk_pure ?_ (by kernel_rfl) (by kernel_rfl) (by rfl) ?_ ?_; rotate_left; (focus (intro w; (go_simp; (try go_ints); (try simp only [IntWalk.iteOmega]); (try go_simp); try with_reducible rfl))); (intro S' hS'; simp only [Act.put, List.setIfInBounds_toArray, List.set_cons_zero, List.set_cons_succ] at hS'; subst hS'))
          -- 1 36:move
          (refine Lin.walk_pure ?_ (by kernel_rfl) (by kernel_rfl) (by rfl) ?_ ?_; rotate_left; (focus (intro w; (go_simp; (try go_ints); (try simp only [IntWalk.iteOmega]); (try go_simp); try with_reducible rfl))); (intro S' hS'; simp only [Act.put, List.setIfInBounds_toArray, List.set_cons_zero, List.set_cons_succ] at hS'; subst hS'))
          -- 2 37:binOp
          (refine Lin.walk_pure ?_ (by kernel_rfl) (by kernel_rfl) (by rfl) ?_ ?_; rotate_left; (focus (intro w; (go_simp; (try go_ints); (try simp only [IntWalk.iteOmega]); (try go_simp); try with_reducible rfl))); (intro S' hS'; simp only [Act.put, List.setIfInBounds_toArray, List.set_cons_zero, List.set_cons_succ] at hS'; subst hS'))
          -- 3 38:indexAddr
          (refine Lin.walk_pure ?_ (by kernel_rfl) (by kernel_rfl) (by rfl) ?_ ?_; rotate_left; (focus (intro w; (go_simp; (try go_ints); (try simp only [IntWalk.iteOmega]); (try go_simp); try with_reducible rfl))); (intro S' hS'; simp only [Act.put, List.setIfInBounds_toArray, List.set_cons_zero, List.set_cons_succ] at hS'; subst hS'))
          -- 4 39:load
          (refine Lin.walk_read ?_ (by kernel_rfl) (by kernel_rfl) (by kernel_rfl) (by rfl) ?_ ?_; rotate_left; (focus (intro w1 hC hI; have d1 := hI.2.cell0 (i := q) (wcells64_get (by rw [HF.out.2]; omega)); rw [← HQ.out.1] at d1; (go_simp; (try go_ints); (try simp only [IntWalk.iteOmega]); (try go_simp); try with_reducible rfl))); (intro S' hS'; simp only [Act.put, List.setIfInBounds_toArray, List.set_cons_zero, List.set_cons_succ] at hS'; subst hS'))
          -- 5 40:move
          (refine Lin.walk_pure ?_ (by kernel_rfl) (by kernel_rfl) (by rfl) ?_ ?_; rotate_left; (focus (intro w; (go_simp; (try go_ints); (try simp only [IntWalk.iteOmega]); (try go_simp); try with_reducible rfl))); (intro S' hS'; simp only [Act.put, List.setIfInBounds_toArray, List.set_cons_zero, List.set_cons_succ] at hS'; subst hS'))
          -- 6 41:binOp
          (refine Lin.walk_pure ?_ (by kernel_rfl) (by kernel_rfl) (by rfl) ?_ ?_; rotate_left; (focus (intro w; (go_simp; (try go_ints); (try simp only [IntWalk.iteOmega]); (try go_simp); try with_reducible rfl))); (intro S' hS'; simp only [Act.put, List.setIfInBounds_toArray, List.set_cons_zero, List.set_cons_succ] at hS'; subst hS'))
          -- 7 42:binOp
          (refine Lin.walk_pure ?_ (by kernel_rfl) (by kernel_rfl) (by rfl) ?_ ?_; rotate_left; (focus (intro w; (go_simp; (try go_ints); (try simp only [IntWalk.iteOmega]); (try go_simp); try with_reducible rfl))); (intro S' hS'; simp only [Act.put, List.setIfInBounds_toArray, List.set_cons_zero, List.set_cons_succ] at hS'; subst hS'))
          -- 8 43:binOp
          (refine Lin.walk_pure ?_ (by kernel_rfl) (by kernel_rfl) (by rfl) ?_ ?_; rotate_left; (focus (intro w; (go_simp; (try go_ints); (try simp only [IntWalk.iteOmega]); (try go_simp); try with_reducible rfl))); (intro S' hS'; simp only [Act.put, List.setIfInBounds_toArray, List.set_cons_zero, List.set_cons_succ] at hS'; subst hS'))
          -- 9 44:call!
          (refine Lin.walk_call (.int .u64 (wn y)) (by kernel_rfl) (by kernel_rfl) (by kernel_rfl) (by rfl) ?_ ?_; (focus (intro w1 hC hI; dsimp only at hC hI; go_simp; refine Calls.mono (shift_i x s _ rfl (by omega) _) (by rintro e' w2 ⟨rfl, rfl⟩; exact ⟨_, rfl, by rw [HQ.out.2.1], Chgd.refl _ _, hI⟩))); (intro S' hS'; simp only [Act.put, List.setIfInBounds_toArray, List.set_cons_zero, List.set_cons_succ] at hS'; subst hS'))
          -- 10 45:binOp
          (refine Lin.walk_pure ?_ (by kernel_rfl) (by kernel_rfl) (by rfl) ?_ ?_; rotate_left; (focus (intro w; (go_simp; (try go_ints); (try simp only [IntWalk.iteOmega]); (try go_simp); try with_reducible rfl))); (intro S' hS'; simp only [Act.put, List.setIfInBounds_toArray, List.set_cons_zero, List.set_cons_succ] at hS'; subst hS'))
          -- 11 46:convert
          (refine Lin.walk_pure ?_ (by kernel_rfl) (by kernel_rfl) (by rfl) ?_ ?_; rotate_left; (focus (intro w; (go_simp; (try go_ints); (try simp only [IntWalk.iteOmega]); (try go_simp); try with_reducible rfl))); (intro S' hS'; simp only [Act.put, List.setIfInBounds_toArray, List.set_cons_zero, List.set_cons_succ] at hS'; subst hS'))
          -- 12 47:indexAddr
          (refine Lin.walk_pure ?_ (by kernel_rfl) (by kernel_rfl) (by rfl) ?_ ?_; rotate_left; (focus (intro w; (go_simp; (try go_ints); (try simp only [IntWalk.iteOmega]); (try go_simp); try with_reducible rfl))); (intro S' hS'; simp only [Act.put, List.setIfInBounds_toArray, List.set_cons_zero, List.set_cons_succ] at hS'; subst hS'))
          -- 13 -:store
          (refine Lin.walk_last [] undef (by kernel_rfl) rfl (by kernel_rfl) (fun _ => by rfl) ?_ ?_; (focus (intro f w1 hF hC hI; dsimp only at hC hI; clear hF; have h1 : Row w1 w5.heap.size 0 (cellsOf (outs hf k)) := hI.1; have c1 := h1.free0 (i := k) (by rw [cellsOf_length, outs_length]; omega); have c2 := h1.cell0 (i := k) (cellsOf_get (by rw [outs_length]; omega)); simp only [Lin.over_nil]; go_simp; refine ⟨rfl, Chgd.one _ _ _ _, ?_, hI.2.keep (Chgd.one _ _ _ _) (fun e => by omega)⟩; show Row _ _ 0 (cellsOf (outs hf (k + 1))); rw [outs, ← HQ.out.2.2.1, ← cellsOf_set, ← HQ.out.2.2.2]; exact Row.set0 (i := k) (cs := cellsOf (outs hf k)) h1 (by rw [cellsOf_length, outs_length]; omega) _)); (intro S' hS'; simp only [Act.put] at hS'; subst hS'))
          (refine Lin.walk_end0 rfl ?_; intro W' hC hI)
          have B8n : Row W' w5.heap.size 0 (cellsOf (outs hf (k + 1))) := hI.1
          have B3n := hI.2
          replace C5 := C5.trans hC (fun j hj e => by omega)
          replace B2c := B2c.keep hC (fun e => by omega)
          clear hI hC eq1 er1 es1 eb
          go_wp2
          go_roundw
          case rel => exact ⟨k + 1, by omega, by go_num, B8n, B3n, B2c, C5⟩
          case measure => simp [intOf]; omega
        · obtain rfl : k = 32 := by omega
          have B8f : Row wr w5.heap.size 0 (cellsOf (sha l)) := by rw [H1.out.2.2.2.1, ← HF.out.1]; exact B8a
          clear B8a
          have hl32 : Hid ((cellsOf (sha l)).length = 32) := Lib.hid (by rw [cellsOf_length, sha_length])
          go_wp2_with (first
            | (refine wpList_loadRow rfl 24 (.tmp 8) rfl w5.heap.size 0 rfl _ B8f _ Tryd.underlying24 rfl 32 size32 hl32.out ?_; rw [← H1.out.2.1])
            | (refine wpList_storeRow rfl 24 (.tmp 2) (.tmp 48) rfl w.heap.size 0 _ (cellsOf (sha l)) rfl (by show Value.agg rv = _; rw [H1.out.2.1]) B2c 32 size32 rfl hl32.out (cellsOf_one _) ?_; intro w8 B9 _ _ c8))
          refine bodyPost_ret (v := .agg rv) ?_ rfl ⟨rfl, C5.trans c8 (fun j hj e => by omega)⟩
          rw [H1.out.2.1]
          exact results_cell_mid (p := 2) (ty := 24) rfl _ w8 w.heap.size 0 (cellsOf (sha l)) _ rfl B9.1 Tryd.underlying24 rfl (by rw [hl32.out]; exact size32)
end Go.Proofs.YtomalanncdcopaaDoor.Dig
