/- OctetReads's walk. -/
import Derived.Test.YtkgmjphdocmodaaOctetItem
namespace Go.Proofs.Ytkgmjphdocmodaa.Octet
open Go.RowKit Go.Proofs.Ytkgmjphdocmodaa.Mem

set_option maxHeartbeats 1000000 in
theorem reads_long (s : ByteArray) (ao : Option Addr) (n cap : Nat) (w : World) (hs : s.size ≤ 140737488351232) (h : 1000 < s.size ∨ 100 < n) (hn2 : n ≤ 9223372036854775807) :
    Calls Try.prog 6 #[.string s, .slice ao n cap] w fun r w' => r = .returned (.bool true) ∧ OnlyNew w w' := by
  by_cases h1 : 1000 < s.size
  · clear h
    go_enter Try.func6, Try.ntmps6
    go_wp2_with (go_at_call 10; refine (shown_any _).mono ?_; rintro e w1 ⟨rfl, c1⟩)
    go_ret
    exact ⟨rfl, c1⟩
  · have h2 : 100 < n := by omega
    clear h
    go_enter Try.func6, Try.ntmps6
    go_wp2_with (go_at_call 10; refine (shown_any _).mono ?_; rintro e w1 ⟨rfl, c1⟩)
    go_ret
    exact ⟨rfl, c1⟩

set_option maxRecDepth 8000 in
set_option maxHeartbeats 2000000 in
theorem reads_law (s : List UInt8) (ao : Option Addr) (b off n cap : Nat) (hao : 0 < n → ao = some ⟨b, off, none⟩) (xs : Nat → Item) (w : World) (hs : s.length ≤ 1000) (hn : n ≤ 100) (hx : ∀ i, i < n → ItemAt w b (off + i * 36) (xs i)) :
    Calls Try.prog 6 #[.string (bstr s), .slice ao n cap] w fun r w' => r = .returned (.bool true) ∧ OnlyNew w w' := by
  have HAO := Lib.hid hao
  have HX := Lib.hid hx
  clear hao hx
  obtain ⟨sb, hsb⟩ : ∃ sb, sb = bstr s := ⟨_, rfl⟩
  have hsz : sb.size ≤ 1000 := by rw [hsb, bstr_size]; exact hs
  have HSB := Lib.hid hsb
  rw [← hsb]
  clear hsb
  go_enter Try.func6, Try.ntmps6
  go_wp2_with fail
  refine (shown_any w).mono ?_
  rintro e w1 ⟨rfl, c1⟩
  go_wp2_with fail
  rw [HSB.out]
  refine (rnew_any s w1).mono ?_
  rintro e w2 ⟨rfl, R2, c2, z2⟩
  go_wp2
  have hd := (Chgd.refl (fun _ => False) w2).alloc (.cells #[.string (bstr s)] 51)
  have R1 := R2.keep hd (fun h => h)
  have X1 : Rd (w2.alloc (.cells #[.string (bstr s)] 51)) (w1.heap.size + 1) s := by
    rw [← z2]
    exact ⟨by simp [go_sem], by simp [go_sem]⟩
  have hO := (c1.trans c2 (fun _ _ h => h)).trans hd (fun _ _ h => h)
  have zz : w.heap.size ≤ w1.heap.size := c1.size
  have zz2 : w1.heap.size + 2 ≤ (w2.alloc (.cells #[.string (bstr s)] 51)).heap.size := by rw [World.size_alloc, z2]; omega
  clear c1 c2 hd R2 z2
  go_loopw [7] (fun i wr => ∃ j : Nat, j ≤ n ∧ i = .int .i64 j ∧ ∃ R : List UInt8, R.length ≤ 1000 ∧ Rd wr w1.heap.size R ∧ Rd wr (w1.heap.size + 1) R ∧ OnlyNew w wr ∧ w1.heap.size + 2 ≤ wr.heap.size) (fun i _ => n - (intOf i).toNat)
  case atStart => exact ⟨0, Nat.zero_le _, rfl, s, hs, R1, X1, hO, zz2⟩
  case round =>
    clear R1 X1 hO
    obtain ⟨j, hj, rfl, R, hL100, R1, X1, hO, zr⟩ := hrel
    by_cases hlt : j < n
    · have hao := HAO.out (by omega)
      subst hao
      have hx0 := HX.out j hlt
      obtain ⟨x, hxe⟩ : ∃ x, x = xs j := ⟨_, rfl⟩
      rw [← hxe] at hx0
      clear hxe
      have hbw := block_lt hx0.kind
      have hx1 := hx0.keep hO (fun h => h)
      clear hx0
      obtain ⟨i0, i1, i2, i3, i4, k0, k1, k2, hh, hs'⟩ := hx1
      obtain ⟨xk, xw, xn, xh, xs'⟩ := x
      simp only at i0 i1 i2 i3 i4 k0 k1 k2 hh hs' hbw
      obtain ⟨sb', hsb'⟩ : ∃ sb, sb = bstr xs' := ⟨_, rfl⟩
      rw [← hsb'] at i4
      have HS := Lib.hid (⟨hsb', hh⟩ : _ ∧ _)
      clear hsb' hh hs'
      by_cases c0 : xk = 0
      · subst c0
        obtain ⟨⟨v, er, R'⟩, Q1⟩ : ∃ q, q = numOf xw R := ⟨_, rfl⟩
        have he := numOf_err xw R
        have hl := numOf_len xw R
        rw [← Q1] at he hl
        simp only at he hl
        replace hl := Nat.le_trans hl hL100
        replace Q1 := Lib.hid Q1
        go_wp2_with (go_at_call 19; refine (left_any _ R _ R1).mono ?_; rintro e w10 ⟨rfl, rfl⟩)
        refine (rnumber_any w1.heap.size R xw wr R1 (by omega)).mono ?_
        rw [← Q1.out]
        rintro e w3 ⟨rfl, R3, c3⟩
        have X3 := X1.keep c3 (by omega)
        have O3 := hO.trans c3 (fun j hj h => by omega)
        replace i1 := c3.at_ i1 (by simp; omega)
        have z3 := c3.size
        clear c3
        go_wp2_with fail
        refine (refnumber_any (w1.heap.size + 1) R xw w3 X3 (by omega)).mono ?_
        rw [← Q1.out]
        rintro e w4 ⟨rfl, XX, c4⟩
        have RR := R3.keep c4 (by omega)
        have OO := O3.trans c4 (fun j hj h => by omega)
        have ZZ : w1.heap.size + 2 ≤ w4.heap.size := by have := c4.size; omega
        clear c4 O3 X3 R3 z3
        clear i0 i1 i2 i3 i4 hbw k0 k1 k2 HS HX HAO hL100 hO R1 X1 Q1
        obtain ⟨ev, hE⟩ : ∃ ev : Int, ev = if R' = [] then 0 else 11 := ⟨_, rfl⟩
        have HEV := Lib.hid hE
        clear hE
        rcases he with he | he
        · subst he
          go_wp2_with (first
            | (go_at_call 19; refine (left_any _ R' _ RR).mono ?_; rintro e w10 ⟨rfl, rfl⟩)
            | (go_at_call 25; refine (refleft _ R' _ XX).mono ?_; rintro e w10 ⟨rfl, rfl⟩)
            | (go_at_call 26; refine (end_any _ R' _ RR).mono ?_; rintro e w10 ⟨rfl, rfl⟩; rw [← HEV.out])
            | (go_at_call 27; refine (refend _ R' _ XX).mono ?_; rintro e w10 ⟨rfl, rfl⟩; rw [← HEV.out]))
          go_roundw
          case rel => exact ⟨j + 1, by omega, by go_num, R', hl, RR, XX, OO, ZZ⟩
          case measure => simp [intOf]; omega
        · subst he
          by_cases her : er = 0
          · subst her
            go_wp2_with (first
              | (go_at_call 19; refine (left_any _ _ _ RR).mono ?_; rintro e w10 ⟨rfl, rfl⟩)
              | (go_at_call 25; refine (refleft _ _ _ XX).mono ?_; rintro e w10 ⟨rfl, rfl⟩)
              | (go_at_call 26; refine (end_any _ _ _ RR).mono ?_; rintro e w10 ⟨rfl, rfl⟩; rw [← HEV.out])
              | (go_at_call 27; refine (refend _ _ _ XX).mono ?_; rintro e w10 ⟨rfl, rfl⟩; rw [← HEV.out]))
            go_roundw
            case rel => exact ⟨j + 1, by omega, by go_num, _, hl, RR, XX, OO, ZZ⟩
            case measure => simp [intOf]; omega
          · have her' : (er == 0) = false := by simpa using her
            go_wp2_with (first
              | (go_at_call 19; refine (left_any _ _ _ RR).mono ?_; rintro e w10 ⟨rfl, rfl⟩)
              | (go_at_call 25; refine (refleft _ _ _ XX).mono ?_; rintro e w10 ⟨rfl, rfl⟩)
              | (go_at_call 26; refine (end_any _ _ _ RR).mono ?_; rintro e w10 ⟨rfl, rfl⟩; rw [← HEV.out])
              | (go_at_call 27; refine (refend _ _ _ XX).mono ?_; rintro e w10 ⟨rfl, rfl⟩; rw [← HEV.out]))
            go_roundw
            case rel => exact ⟨j + 1, by omega, by go_num, _, hl, RR, XX, OO, ZZ⟩
            case measure => simp [intOf]; omega
      · have c0' : (xk == 0) = false := by simpa using c0
        by_cases c1 : xk = 1
        · subst c1
          obtain ⟨⟨hx, er, R'⟩, Q1⟩ : ∃ q, q = hashOf R := ⟨_, rfl⟩
          have he := hashOf_err R
          have hl := (hashOf_len R).1
          have hxl := (hashOf_len R).2
          rw [← Q1] at he hl hxl
          simp only at he hl hxl
          replace hl := Nat.le_trans hl hL100
          replace Q1 := Lib.hid Q1
          have hxs : ((cellsOf hx).toArray).size = 32 := by simp [cellsOf_length, hxl]
          have hagg : ((cellsOf hx).toArray).all (·.oneCell') = true := by simpa using cellsOf_one hx
          obtain ⟨hx2, hxe⟩ : ∃ hx2, hx2 = (cellsOf hx).toArray := ⟨_, rfl⟩
          rw [← hxe] at hxs hagg
          have HXE := Lib.hid hxe
          have hsz35 : (Try.prog.info? 34).map (·.size) = some hx2.size := by rw [hxs]; exact size_hash
          have hsz36 : (Try.prog.info? 34).map (·.size) = some hx2.toList.length := by rw [Array.length_toList]; exact hsz35
          have heq : ∀ wx, (Op.equalIn 10000 34 (.agg hx2) (.agg hx2)).run Try.prog wx = .ok true wx := fun wx => by
            rw [hxe, eq_hash wx hx hx hxl hxl, beq_self_eq_true]
          clear hxe
          go_wp2_with (go_at_call 19; refine (left_any _ R _ R1).mono ?_; rintro e w10 ⟨rfl, rfl⟩)
          refine (rhash_any w1.heap.size R wr R1 (by omega)).mono ?_
          rw [← Q1.out]
          simp only [← HXE.out]
          rintro e w3 ⟨rfl, R3, c3⟩
          have X3 := X1.keep c3 (by omega)
          have O3 := hO.trans c3 (fun j hj h => by omega)
          have z3 := c3.size
          clear c3
          have hth : (w3.alloc (.cells #[.int .u8 0, .int .u8 0, .int .u8 0, .int .u8 0, .int .u8 0, .int .u8 0, .int .u8 0, .int .u8 0, .int .u8 0, .int .u8 0, .int .u8 0, .int .u8 0, .int .u8 0, .int .u8 0, .int .u8 0, .int .u8 0, .int .u8 0, .int .u8 0, .int .u8 0, .int .u8 0, .int .u8 0, .int .u8 0, .int .u8 0, .int .u8 0, .int .u8 0, .int .u8 0, .int .u8 0, .int .u8 0, .int .u8 0, .int .u8 0, .int .u8 0, .int .u8 0] 34)).there w3.heap.size 0 hx2.size := by
            have := there_new w3 #[.int .u8 0, .int .u8 0, .int .u8 0, .int .u8 0, .int .u8 0, .int .u8 0, .int .u8 0, .int .u8 0, .int .u8 0, .int .u8 0, .int .u8 0, .int .u8 0, .int .u8 0, .int .u8 0, .int .u8 0, .int .u8 0, .int .u8 0, .int .u8 0, .int .u8 0, .int .u8 0, .int .u8 0, .int .u8 0, .int .u8 0, .int .u8 0, .int .u8 0, .int .u8 0, .int .u8 0, .int .u8 0, .int .u8 0, .int .u8 0, .int .u8 0, .int .u8 0] 34
            rw [hxs]
            exact this
          go_wp2_with (refine wpList_store_agg rfl 34 _ _ rfl w3.heap.size 0 hx2 rfl rfl hth hsz35 hagg ?_; intro w4 B4 _ _ c4)
          have hD := ((Chgd.refl (fun _ => False) w3).alloc (.cells #[.int .u8 0, .int .u8 0, .int .u8 0, .int .u8 0, .int .u8 0, .int .u8 0, .int .u8 0, .int .u8 0, .int .u8 0, .int .u8 0, .int .u8 0, .int .u8 0, .int .u8 0, .int .u8 0, .int .u8 0, .int .u8 0, .int .u8 0, .int .u8 0, .int .u8 0, .int .u8 0, .int .u8 0, .int .u8 0, .int .u8 0, .int .u8 0, .int .u8 0, .int .u8 0, .int .u8 0, .int .u8 0, .int .u8 0, .int .u8 0, .int .u8 0, .int .u8 0] 34)).trans c4 (fun j hj h => by omega)
          have O4 := O3.trans hD (fun j hj h => h)
          have R4 := R3.keep hD (fun h => h)
          have X4 := X3.keep hD (fun h => h)
          have z4 := hD.size
          clear hD hth O3 R3 X3
          refine (refhash_any (w1.heap.size + 1) R w4 X4 (by omega)).mono ?_
          rw [← Q1.out]
          simp only [← HXE.out]
          rintro e w5 ⟨rfl, X5, c5⟩
          have R5 := R4.keep c5 (by omega)
          have O5 := O4.trans c5 (fun j hj h => by omega)
          have B5 := rangeAt.keep B4 c5 (by omega)
          have z5 := c5.size
          clear c5 O4 X4 R4 B4
          have hth : (w5.alloc (.cells #[.int .u8 0, .int .u8 0, .int .u8 0, .int .u8 0, .int .u8 0, .int .u8 0, .int .u8 0, .int .u8 0, .int .u8 0, .int .u8 0, .int .u8 0, .int .u8 0, .int .u8 0, .int .u8 0, .int .u8 0, .int .u8 0, .int .u8 0, .int .u8 0, .int .u8 0, .int .u8 0, .int .u8 0, .int .u8 0, .int .u8 0, .int .u8 0, .int .u8 0, .int .u8 0, .int .u8 0, .int .u8 0, .int .u8 0, .int .u8 0, .int .u8 0, .int .u8 0] 34)).there w5.heap.size 0 hx2.size := by
            have := there_new w5 #[.int .u8 0, .int .u8 0, .int .u8 0, .int .u8 0, .int .u8 0, .int .u8 0, .int .u8 0, .int .u8 0, .int .u8 0, .int .u8 0, .int .u8 0, .int .u8 0, .int .u8 0, .int .u8 0, .int .u8 0, .int .u8 0, .int .u8 0, .int .u8 0, .int .u8 0, .int .u8 0, .int .u8 0, .int .u8 0, .int .u8 0, .int .u8 0, .int .u8 0, .int .u8 0, .int .u8 0, .int .u8 0, .int .u8 0, .int .u8 0, .int .u8 0, .int .u8 0] 34
            rw [hxs]
            exact this
          have B5' := rangeAt.keep B5 ((Chgd.refl (fun _ => False) w5).alloc (.cells #[.int .u8 0, .int .u8 0, .int .u8 0, .int .u8 0, .int .u8 0, .int .u8 0, .int .u8 0, .int .u8 0, .int .u8 0, .int .u8 0, .int .u8 0, .int .u8 0, .int .u8 0, .int .u8 0, .int .u8 0, .int .u8 0, .int .u8 0, .int .u8 0, .int .u8 0, .int .u8 0, .int .u8 0, .int .u8 0, .int .u8 0, .int .u8 0, .int .u8 0, .int .u8 0, .int .u8 0, .int .u8 0, .int .u8 0, .int .u8 0, .int .u8 0, .int .u8 0] 34)) (fun h => h)
          go_wp2_with (first
            | (refine wpList_store_agg rfl 34 _ _ rfl w5.heap.size 0 hx2 rfl rfl hth hsz35 hagg ?_; intro w6 B6 _ _ c6; have hD := ((Chgd.refl (fun _ => False) w5).alloc (.cells #[.int .u8 0, .int .u8 0, .int .u8 0, .int .u8 0, .int .u8 0, .int .u8 0, .int .u8 0, .int .u8 0, .int .u8 0, .int .u8 0, .int .u8 0, .int .u8 0, .int .u8 0, .int .u8 0, .int .u8 0, .int .u8 0, .int .u8 0, .int .u8 0, .int .u8 0, .int .u8 0, .int .u8 0, .int .u8 0, .int .u8 0, .int .u8 0, .int .u8 0, .int .u8 0, .int .u8 0, .int .u8 0, .int .u8 0, .int .u8 0, .int .u8 0, .int .u8 0] 34)).trans c6 (fun j hj h => by omega); have B3 := rangeAt.keep B5 hD (fun h => h))
            | (refine wpList_load_mid rfl 34 _ rfl w3.heap.size 0 rfl hx2.toList _ B3 Try.underlying34 rfl hsz36 ?_)
            | (refine wpList_load_mid rfl 34 _ rfl w5.heap.size 0 rfl hx2.toList _ B6 Try.underlying34 rfl hsz36 ?_))
          have RR := R5.keep hD (fun h => h)
          have XX := X5.keep hD (fun h => h)
          have OO := O5.trans hD (fun j hj h => h)
          have ZZ : w1.heap.size + 2 ≤ w6.heap.size := by have := hD.size; omega
          clear hD c6 B3 B6 B5 B5' hth R5 X5 O5 z3 z4 z5 heq hsz35 hsz36 hagg hxs
          clear i0 i1 i2 i3 i4 hbw k0 k1 k2 HS HX HAO hL100 hO R1 X1 Q1
          obtain ⟨ev, hE⟩ : ∃ ev : Int, ev = if R' = [] then 0 else 11 := ⟨_, rfl⟩
          have HEV := Lib.hid hE
          clear hE
          rcases he with he | he
          · subst he
            go_wp2_with (first
              | (go_at_call 19; refine (left_any _ R' _ RR).mono ?_; rintro e w10 ⟨rfl, rfl⟩)
              | (go_at_call 25; refine (refleft _ R' _ XX).mono ?_; rintro e w10 ⟨rfl, rfl⟩)
              | (go_at_call 26; refine (end_any _ R' _ RR).mono ?_; rintro e w10 ⟨rfl, rfl⟩; rw [← HEV.out])
              | (go_at_call 27; refine (refend _ R' _ XX).mono ?_; rintro e w10 ⟨rfl, rfl⟩; rw [← HEV.out]))
            go_roundw
            case rel => exact ⟨j + 1, by omega, by go_num, R', hl, RR, XX, OO, ZZ⟩
            case measure => simp [intOf]; omega
          · subst he
            by_cases her : er = 0
            · subst her
              go_wp2_with (first
                | (go_at_call 19; refine (left_any _ _ _ RR).mono ?_; rintro e w10 ⟨rfl, rfl⟩)
                | (go_at_call 25; refine (refleft _ _ _ XX).mono ?_; rintro e w10 ⟨rfl, rfl⟩)
                | (go_at_call 26; refine (end_any _ _ _ RR).mono ?_; rintro e w10 ⟨rfl, rfl⟩; rw [← HEV.out])
                | (go_at_call 27; refine (refend _ _ _ XX).mono ?_; rintro e w10 ⟨rfl, rfl⟩; rw [← HEV.out]))
              go_roundw
              case rel => exact ⟨j + 1, by omega, by go_num, _, hl, RR, XX, OO, ZZ⟩
              case measure => simp [intOf]; omega
            · have her' : (er == 0) = false := by simpa using her
              go_wp2_with (first
                | (go_at_call 19; refine (left_any _ _ _ RR).mono ?_; rintro e w10 ⟨rfl, rfl⟩)
                | (go_at_call 25; refine (refleft _ _ _ XX).mono ?_; rintro e w10 ⟨rfl, rfl⟩)
                | (go_at_call 26; refine (end_any _ _ _ RR).mono ?_; rintro e w10 ⟨rfl, rfl⟩; rw [← HEV.out])
                | (go_at_call 27; refine (refend _ _ _ XX).mono ?_; rintro e w10 ⟨rfl, rfl⟩; rw [← HEV.out]))
              go_roundw
              case rel => exact ⟨j + 1, by omega, by go_num, _, hl, RR, XX, OO, ZZ⟩
              case measure => simp [intOf]; omega
        · have c1' : (xk == 1) = false := by simpa using c1
          by_cases c2 : xk = 2
          · subst c2
            obtain ⟨⟨T, er, R'⟩, Q1⟩ : ∃ q, q = textOf R := ⟨_, rfl⟩
            have he := textOf_err R
            have hl := textOf_len R
            rw [← Q1] at he hl
            simp only at he hl
            replace hl := Nat.le_trans hl hL100
            replace Q1 := Lib.hid Q1
            obtain ⟨bT, ebT⟩ : ∃ bT, bT = bstr T := ⟨_, rfl⟩
            have heq : (bT.toList == bT.toList) = true := beq_self_eq_true _
            have EBT := Lib.hid ebT
            clear ebT
            go_wp2_with (go_at_call 19; refine (left_any _ R _ R1).mono ?_; rintro e w10 ⟨rfl, rfl⟩)
            refine (rtext_any w1.heap.size R wr R1 (by omega)).mono ?_
            rw [← Q1.out]
            simp only [← EBT.out]
            rintro e w3 ⟨rfl, R3, c3⟩
            have X3 := X1.keep c3 (by omega)
            have O3 := hO.trans c3 (fun j hj h => by omega)
            have z3 := c3.size
            clear c3
            go_wp2_with fail
            refine (reftext_any (w1.heap.size + 1) R w3 X3 (by omega)).mono ?_
            rw [← Q1.out]
            simp only [← EBT.out]
            rintro e w4 ⟨rfl, XX, c4⟩
            have RR := R3.keep c4 (by omega)
            have OO := O3.trans c4 (fun j hj h => by omega)
            have ZZ : w1.heap.size + 2 ≤ w4.heap.size := by have := c4.size; omega
            clear c4 O3 X3 R3 z3
            clear i0 i1 i2 i3 i4 hbw k0 k1 k2 HS HX HAO hL100 hO R1 X1 Q1
            obtain ⟨ev, hE⟩ : ∃ ev : Int, ev = if R' = [] then 0 else 11 := ⟨_, rfl⟩
            have HEV := Lib.hid hE
            clear hE
            rcases he with he | he
            · subst he
              go_wp2_with (first
                | (go_at_call 19; refine (left_any _ R' _ RR).mono ?_; rintro e w10 ⟨rfl, rfl⟩)
                | (go_at_call 25; refine (refleft _ R' _ XX).mono ?_; rintro e w10 ⟨rfl, rfl⟩)
                | (go_at_call 26; refine (end_any _ R' _ RR).mono ?_; rintro e w10 ⟨rfl, rfl⟩; rw [← HEV.out])
                | (go_at_call 27; refine (refend _ R' _ XX).mono ?_; rintro e w10 ⟨rfl, rfl⟩; rw [← HEV.out]))
              go_roundw
              case rel => exact ⟨j + 1, by omega, by go_num, R', hl, RR, XX, OO, ZZ⟩
              case measure => simp [intOf]; omega
            · subst he
              by_cases her : er = 0
              · subst her
                go_wp2_with (first
                  | (go_at_call 19; refine (left_any _ _ _ RR).mono ?_; rintro e w10 ⟨rfl, rfl⟩)
                  | (go_at_call 25; refine (refleft _ _ _ XX).mono ?_; rintro e w10 ⟨rfl, rfl⟩)
                  | (go_at_call 26; refine (end_any _ _ _ RR).mono ?_; rintro e w10 ⟨rfl, rfl⟩; rw [← HEV.out])
                  | (go_at_call 27; refine (refend _ _ _ XX).mono ?_; rintro e w10 ⟨rfl, rfl⟩; rw [← HEV.out]))
                go_roundw
                case rel => exact ⟨j + 1, by omega, by go_num, _, hl, RR, XX, OO, ZZ⟩
                case measure => simp [intOf]; omega
              · have her' : (er == 0) = false := by simpa using her
                go_wp2_with (first
                  | (go_at_call 19; refine (left_any _ _ _ RR).mono ?_; rintro e w10 ⟨rfl, rfl⟩)
                  | (go_at_call 25; refine (refleft _ _ _ XX).mono ?_; rintro e w10 ⟨rfl, rfl⟩)
                  | (go_at_call 26; refine (end_any _ _ _ RR).mono ?_; rintro e w10 ⟨rfl, rfl⟩; rw [← HEV.out])
                  | (go_at_call 27; refine (refend _ _ _ XX).mono ?_; rintro e w10 ⟨rfl, rfl⟩; rw [← HEV.out]))
                go_roundw
                case rel => exact ⟨j + 1, by omega, by go_num, _, hl, RR, XX, OO, ZZ⟩
                case measure => simp [intOf]; omega
          · have c2' : (xk == 2) = false := by simpa using c2
            obtain ⟨ev, hE⟩ : ∃ ev : Int, ev = if R = [] then 0 else 11 := ⟨_, rfl⟩
            have HEV := Lib.hid hE
            clear hE
            go_wp2_with (first
              | (go_at_call 19; refine (left_any _ R _ R1).mono ?_; rintro e w10 ⟨rfl, rfl⟩)
              | (go_at_call 25; refine (refleft _ R _ X1).mono ?_; rintro e w10 ⟨rfl, rfl⟩)
              | (go_at_call 26; refine (end_any _ R _ R1).mono ?_; rintro e w10 ⟨rfl, rfl⟩; rw [← HEV.out])
              | (go_at_call 27; refine (refend _ R _ X1).mono ?_; rintro e w10 ⟨rfl, rfl⟩; rw [← HEV.out]))
            go_roundw
            case rel => exact ⟨j + 1, by omega, by go_num, R, hL100, R1, X1, hO, zr⟩
            case measure => simp [intOf]; omega
    · obtain rfl : j = n := by omega
      go_wp2_with (first
        | (go_at_call 19; refine (left_any _ _ _ R1).mono ?_; rintro e w10 ⟨rfl, rfl⟩)
        | (go_at_call 25; refine (refleft _ _ _ X1).mono ?_; rintro e w10 ⟨rfl, rfl⟩))
      go_ret
      exact ⟨rfl, hO⟩
end Go.Proofs.Ytkgmjphdocmodaa.Octet
