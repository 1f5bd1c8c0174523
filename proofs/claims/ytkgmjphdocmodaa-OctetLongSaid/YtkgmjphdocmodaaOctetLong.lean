/- OctetLong's walk. -/
import Derived.Test.YtkgmjphdocmodaaOctetL
import Derived.Deep.RegionHeld3
namespace Go.Proofs.Ytkgmjphdocmodaa.Octet
open Go.RowKit Go.Proofs.Ytkgmjphdocmodaa.Mem

set_option maxHeartbeats 1000000 in
theorem long_law (s : List UInt8) (w : World) (hs : s.length ≤ 140737488351232) :
    Calls Try.prog 5 #[.string (bstr s)] w fun r w' => r = .returned (.bool true) ∧ OnlyNew w w' := by
  have hs1 := fun (wx : World) (u : Int) => str_one (P := Try.prog) (t := 5) Try.underlying24 Try.underlying5 Try.underlying9 wx u
  have hsz := bstr_size s
  by_cases h300 : 300 < s.length
  · obtain ⟨b, hb⟩ : ∃ b, b = bstr s := ⟨_, rfl⟩
    rw [← hb] at hsz ⊢
    have hb1 : 300 < b.size := by omega
    clear hsz hb
    go_enter Try.func5, Try.ntmps5
    go_wp2_with (go_at_call 10; refine (shown_any _).mono ?_; rintro e w1 ⟨rfl, c1⟩)
    go_ret
    exact ⟨rfl, c1⟩
  · obtain ⟨b, hb⟩ : ∃ b, b = bstr s := ⟨_, rfl⟩
    obtain ⟨C, hC⟩ : ∃ C, C = UInt8.ofNat (s.length % 256) :: s := ⟨_, rfl⟩
    have hCs : ({ data := #[UInt8.ofNat (s.length % 256)] } : ByteArray) ++ b = bstr C := by
      rw [hb, hC]
      apply ByteArray.ext
      simp [bstr, ByteArray.data_append]
    rw [← hb] at hsz ⊢
    have hb1 : b.size ≤ 300 := by omega
    rw [← hsz] at hCs
    have ec : (UInt8.ofNat (s.length % 256)).toNat = s.length % 256 := by simp
    have hlC : C.length = s.length + 1 := by rw [hC]; rfl
    by_cases c64 : s.length ≤ 64
    · have hb64 : b.size ≤ 64 := by omega
      have TW : textW s = (C, 0) := by unfold textW; rw [if_pos c64, hC, Nat.mod_eq_of_lt (by omega)]
      have TO : textOf C = (s, 0, []) := by
        have := textOf_text s [] c64
        rw [hC, Nat.mod_eq_of_lt (by omega)]
        simpa using this
      have HH := Lib.hid (⟨TW, TO, hb⟩ : _ ∧ _ ∧ _)
      have hbs := Lib.hid hsz
      have HlC := Lib.hid hlC
      have hs3 := Lib.hid (show s.length ≤ 300 by omega)
      have hCC := Lib.hid hCs
      clear hC hsz hlC hb hs h300 ec TW TO c64 hCs
      have hbe : (b.toList == b.toList) = true := beq_self_eq_true _
      obtain ⟨bC, hbC⟩ : ∃ bC, bC = bstr C := ⟨_, rfl⟩
      have hbe2 : (bC.toList == bC.toList) = true := beq_self_eq_true _
      have hCs : ({ data := #[UInt8.ofNat (b.size % 256)] } : ByteArray) ++ b = bC := by rw [hbC]; exact hCC.out
      have HbC := Lib.hid hbC
      clear hbC
      go_enter Try.func5, Try.ntmps5
      go_wp2_with fail
      refine (shown_any _).mono ?_
      rintro e w1 ⟨rfl, c1⟩
      go_wp2_with fail
      have N1 := NW.fresh w1 26 0 0
      have hO := c1.trans ((Chgd.refl (fun _ => False) w1).alloc (.cells #[.slice none 0 0] 26)) (fun _ _ h => h)
      have TT := text_any (w1.heap.size + 1) (w1.heap.size + 1) _ _ s _ (N1.empty _) (by simp) (by simp) (by simp) (by have := hs3.out; omega)
      rw [HH.out.1, ← HH.out.2.2] at TT
      refine TT.mono ?_
      rintro e w2 ⟨rfl, N2, c2⟩
      simp only [List.nil_append] at N2
      have z1 := c1.size
      replace hO := hO.trans c2 (fun j hj h => by unfold WS at h; omega)
      have z2 := c2.size
      simp only [World.size_alloc] at z2
      clear c2 N1 TT c1
      go_wp2_with fail
      have hD := (Chgd.refl (fun _ => False) w2).alloc (.cells #[.int .u8 (b.size % 256)] 5)
      rw [HbC.out]
      refine (rnew_any C _).mono ?_
      rintro e w5 ⟨rfl, R5, c5, z5⟩
      replace hD := hD.trans c5 (fun j hj h => h)
      rw [World.size_alloc] at z5 R5
      clear c5
      go_wp2_with fail
      refine (rtext_any _ C w5 R5 (by have := hs3.out; have := HlC.out; omega)).mono ?_
      rw [HH.out.2.1, ← HH.out.2.2]
      rintro e w6 ⟨rfl, R6, c6⟩
      replace hO := (hO.trans hD (fun j hj h => h)).trans c6 (fun j hj h => by omega)
      replace N2 := (N2.keep hD (fun h => h) (fun _ _ _ h => h)).keep c6 (by omega) (fun k _ _ h => by omega)
      clear c6 R5 hD
      have hw8 : IntKind.u8.wrap (b.size : Int) = b.size := by simp [IntKind.wrap, IntKind.signed, IntKind.bits]; omega
      have hmod : UInt8.ofNat (b.size % 256) = UInt8.ofNat b.size := by rw [Nat.mod_eq_of_lt (by omega)]
      rw [hmod] at hCs
      have hs2 : ∀ (wx : World) (u : Int), (convert 24 9 (.slice (some ⟨wx.heap.size, 0, none⟩) 1 1)).run Try.prog (wx.alloc (.cells #[.int .u8 u] 5)).drew = .ok (.string ⟨#[UInt8.ofNat u.toNat]⟩) (wx.alloc (.cells #[.int .u8 u] 5)).drew :=
        fun wx u => str_one (P := Try.prog) (t := 5) Try.underlying24 Try.underlying5 Try.underlying9 wx.drew u
      go_wp2_with fail
      have hadd : ¬ 9223372036854775807 < 1 + b.size := by omega
      refine wp_region_noPanic ?_
      refine wp_region_held_drew (S := fun w' => NW (w1.heap.size + 1) w2.heap.size w' w1.heap.size C) (by kernel_rfl) ?_ (fun hHeld => ?_)
      · first | assumption | (refine NW.keep (S := fun _ => False) (by assumption) (by first | exact (Chgd.refl _ _).drew | exact (Chgd.refl _ _).alloc _ | exact (Chgd.refl _ _).drew.alloc _) (fun h => h) (fun _ _ _ h => h))
      refine wpAnyH_take (i := 0) (oi := { dst := some 73, op := Op.move (Operand.tmp 4), type := 27, pos := "law.go:138", after := #[], guard := none }) (v := ?_) rfl (by kernel_rfl) (by kernel_rfl) (by kernel_rfl) (fun _ _ _ h => h) (Or.inl ⟨by rfl, ?_⟩) (by assumption) ?_
      rotate_left
      · (intro w hSw; (try dsimp only at hSw); go_simp; try with_reducible rfl)
      try simp only [Act.put, List.setIfInBounds_toArray, List.set_cons_zero, List.set_cons_succ]
      refine wpAnyH_take (i := 1) (oi := { dst := some 74, op := Op.binOp BinOp.eql 27 (Operand.tmp 73) (Operand.const (Value.int IntKind.i64 0)) 27, type := 4, pos := "law.go:138", after := #[{ on := 0, ground := Ground.data }], guard := none }) (v := ?_) rfl (by kernel_rfl) (by kernel_rfl) (by kernel_rfl) (fun _ _ _ h => h) (Or.inl ⟨by rfl, ?_⟩) (by assumption) ?_
      rotate_left
      · (intro w hSw; (try dsimp only at hSw); go_simp; try with_reducible rfl)
      try simp only [Act.put, List.setIfInBounds_toArray, List.set_cons_zero, List.set_cons_succ]
      refine wpAnyH_take (i := 2) (oi := { dst := some 75, op := Op.move (Operand.tmp 74), type := 4, pos := "law.go:138", after := #[{ on := 1, ground := Ground.data }], guard := none }) (v := ?_) rfl (by kernel_rfl) (by kernel_rfl) (by kernel_rfl) (fun _ _ _ h => h) (Or.inl ⟨by rfl, ?_⟩) (by assumption) ?_
      rotate_left
      · (intro w hSw; (try dsimp only at hSw); go_simp; try with_reducible rfl)
      try simp only [Act.put, List.setIfInBounds_toArray, List.set_cons_zero, List.set_cons_succ]
      refine wpAnyH_take (i := 3) (oi := { dst := some 76, op := Op.move (Operand.tmp 3), type := 23, pos := "law.go:138", after := #[{ on := 2, ground := Ground.guard }], guard := some (2, true) }) (v := ?_) rfl (by kernel_rfl) (by kernel_rfl) (by kernel_rfl) (fun _ _ _ h => h) (Or.inl ⟨by rfl, ?_⟩) (by assumption) ?_
      rotate_left
      · (intro w hSw; (try dsimp only at hSw); go_simp; try with_reducible rfl)
      try simp only [Act.put, List.setIfInBounds_toArray, List.set_cons_zero, List.set_cons_succ]
      refine wpAnyH_take (i := 5) (oi := { dst := some 78, op := Op.move (Operand.tmp 0), type := 9, pos := "law.go:138", after := #[{ on := 2, ground := Ground.guard }], guard := some (2, true) }) (v := ?_) rfl (by kernel_rfl) (by kernel_rfl) (by kernel_rfl) (fun _ _ _ h => h) (Or.inl ⟨by rfl, ?_⟩) (by assumption) ?_
      rotate_left
      · (intro w hSw; (try dsimp only at hSw); go_simp; try with_reducible rfl)
      try simp only [Act.put, List.setIfInBounds_toArray, List.set_cons_zero, List.set_cons_succ]
      refine wpAnyH_take (i := 6) (oi := { dst := some 79, op := Op.call { callee := Callee.builtin Builtin.len, args := #[Operand.tmp 78], argTypes := #[9] }, type := 3, pos := "law.go:138", after := #[{ on := 5, ground := Ground.data }, { on := 2, ground := Ground.guard }], guard := some (2, true) }) (v := ?_) rfl (by kernel_rfl) (by kernel_rfl) (by kernel_rfl) (fun _ _ _ h => h) (Or.inl ⟨by rfl, ?_⟩) (by assumption) ?_
      rotate_left
      · (intro w hSw; (try dsimp only at hSw); go_simp; try with_reducible rfl)
      try simp only [Act.put, List.setIfInBounds_toArray, List.set_cons_zero, List.set_cons_succ]
      refine wpAnyH_take (i := 7) (oi := { dst := some 80, op := Op.convert 3 5 (Operand.tmp 79), type := 5, pos := "law.go:138", after := #[{ on := 6, ground := Ground.data }, { on := 2, ground := Ground.guard }], guard := some (2, true) }) (v := ?_) rfl (by kernel_rfl) (by kernel_rfl) (by kernel_rfl) (fun _ _ _ h => h) (Or.inl ⟨by rfl, ?_⟩) (by assumption) ?_
      rotate_left
      · (intro w hSw; (try dsimp only at hSw); go_simp; try with_reducible rfl)
      try simp only [Act.put, List.setIfInBounds_toArray, List.set_cons_zero, List.set_cons_succ]
      refine wpAnyH_take (i := 10) (oi := { dst := some 83, op := Op.move (Operand.tmp 0), type := 9, pos := "law.go:138", after := #[{ on := 2, ground := Ground.guard }], guard := some (2, true) }) (v := ?_) rfl (by kernel_rfl) (by kernel_rfl) (by kernel_rfl) (fun _ _ _ h => h) (Or.inl ⟨by rfl, ?_⟩) (by assumption) ?_
      rotate_left
      · (intro w hSw; (try dsimp only at hSw); go_simp; try with_reducible rfl)
      try simp only [Act.put, List.setIfInBounds_toArray, List.set_cons_zero, List.set_cons_succ]
      refine wpAnyH_ready (rs := [4, 8]) (by kernel_rfl) (by simp) ?_
      refine AllReadyH.cons (o := { dst := some 77, op := Op.call { callee := Callee.value (Operand.func 11), args := #[Operand.tmp 76], argTypes := #[23] }, type := 9, pos := "law.go:138", after := #[{ on := 3, ground := Ground.data }, { on := 2, ground := Ground.chain }, { on := 2, ground := Ground.guard }], guard := some (2, true) }) rfl (fun K hK => ?_) ?_
      · go_simp
        (go_at_call 11; refine (wbytes_any _ _ _ _ _ (by assumption)).mono ?_; rintro e w10 ⟨rfl, rfl⟩; rw [← HbC.out])
        refine hK.out _ _ ?_ (fun hHeld => ?_)
        · first | assumption | (refine NW.keep (S := fun _ => False) (by assumption) (by first | exact (Chgd.refl _ _).drew | exact (Chgd.refl _ _).alloc _ | exact (Chgd.refl _ _).drew.alloc _) (fun h => h) (fun _ _ _ h => h))
        clear hK K
        try simp only [Act.put, List.setIfInBounds_toArray, List.set_cons_zero, List.set_cons_succ]
        refine wpAnyH_ready (rs := [8]) (by kernel_rfl) (by simp) ?_
        refine AllReadyH.cons (o := { dst := some 81, op := Op.buildSlice 24 1 #[(0, Operand.tmp 80)], type := 24, pos := "law.go:138", after := #[{ on := 7, ground := Ground.data }, { on := 2, ground := Ground.guard }], guard := some (2, true) }) rfl (fun K hK => ?_) ?_
        · go_simp
          refine hK.out _ _ ?_ (fun hHeld => ?_)
          · first | assumption | (refine NW.keep (S := fun _ => False) (by assumption) (by first | exact (Chgd.refl _ _).drew | exact (Chgd.refl _ _).alloc _ | exact (Chgd.refl _ _).drew.alloc _) (fun h => h) (fun _ _ _ h => h))
          clear hK K
          try simp only [Act.put, List.setIfInBounds_toArray, List.set_cons_zero, List.set_cons_succ]
          refine wpAnyH_ready (rs := [9]) (by kernel_rfl) (by simp) ?_
          refine AllReadyH.cons (o := { dst := some 82, op := Op.convert 24 9 (Operand.tmp 81), type := 9, pos := "law.go:138", after := #[{ on := 8, ground := Ground.data }, { on := 2, ground := Ground.guard }], guard := some (2, true) }) rfl (fun K hK => ?_) ?_
          · go_simp
            refine hK.out _ _ ?_ (fun hHeld => ?_)
            · first | assumption | (refine NW.keep (S := fun _ => False) (by assumption) (by first | exact (Chgd.refl _ _).drew | exact (Chgd.refl _ _).alloc _ | exact (Chgd.refl _ _).drew.alloc _) (fun h => h) (fun _ _ _ h => h))
            clear hK K
            try simp only [Act.put, List.setIfInBounds_toArray, List.set_cons_zero, List.set_cons_succ]
            refine wpAnyH_take (i := 11) (oi := { dst := some 84, op := Op.binOp BinOp.add 9 (Operand.tmp 82) (Operand.tmp 83) 9, type := 9, pos := "law.go:138", after := #[{ on := 9, ground := Ground.data }, { on := 10, ground := Ground.data }, { on := 2, ground := Ground.guard }], guard := some (2, true) }) (v := ?_) rfl (by kernel_rfl) (by kernel_rfl) (by kernel_rfl) (fun _ _ _ h => h) (Or.inl ⟨by rfl, ?_⟩) (by assumption) ?_
            rotate_left
            · (intro w hSw; (try dsimp only at hSw); go_simp; try with_reducible rfl)
            try simp only [Act.put, List.setIfInBounds_toArray, List.set_cons_zero, List.set_cons_succ]
            refine wpAnyH_take (i := 12) (oi := { dst := some 85, op := Op.binOp BinOp.eql 9 (Operand.tmp 77) (Operand.tmp 84) 9, type := 4, pos := "law.go:138", after := #[{ on := 4, ground := Ground.data }, { on := 11, ground := Ground.data }, { on := 2, ground := Ground.guard }], guard := some (2, true) }) (v := ?_) rfl (by kernel_rfl) (by kernel_rfl) (by kernel_rfl) (fun _ _ _ h => h) (Or.inl ⟨by rfl, ?_⟩) (by assumption) ?_
            rotate_left
            · (intro w hSw; (try dsimp only at hSw); go_simp; try with_reducible rfl)
            try simp only [Act.put, List.setIfInBounds_toArray, List.set_cons_zero, List.set_cons_succ]
            refine wpAnyH_take (i := 13) (oi := { dst := some 86, op := Op.pick (Operand.tmp 75) (Operand.tmp 85) (Operand.const (Value.bool false)), type := 4, pos := "law.go:138", after := #[{ on := 2, ground := Ground.data }, { on := 12, ground := Ground.data }], guard := none }) (v := ?_) rfl (by kernel_rfl) (by kernel_rfl) (by kernel_rfl) (fun _ _ _ h => h) (Or.inl ⟨by rfl, ?_⟩) (by assumption) ?_
            rotate_left
            · (intro w hSw; (try dsimp only at hSw); go_simp; try with_reducible rfl)
            try simp only [Act.put, List.setIfInBounds_toArray, List.set_cons_zero, List.set_cons_succ]
            refine wpAnyH_take (i := 14) (oi := { dst := some 87, op := Op.move (Operand.tmp 86), type := 4, pos := "law.go:138", after := #[{ on := 13, ground := Ground.data }, { on := 4, ground := Ground.chain }], guard := none }) (v := ?_) rfl (by kernel_rfl) (by kernel_rfl) (by kernel_rfl) (fun _ _ _ h => h) (Or.inl ⟨by rfl, ?_⟩) (by assumption) ?_
            rotate_left
            · (intro w hSw; (try dsimp only at hSw); go_simp; try with_reducible rfl)
            try simp only [Act.put, List.setIfInBounds_toArray, List.set_cons_zero, List.set_cons_succ]
            refine wpAnyH_take (i := 15) (oi := { dst := some 88, op := Op.move (Operand.tmp 7), type := 27, pos := "law.go:138", after := #[{ on := 14, ground := Ground.guard }], guard := some (14, true) }) (v := ?_) rfl (by kernel_rfl) (by kernel_rfl) (by kernel_rfl) (fun _ _ _ h => h) (Or.inl ⟨by rfl, ?_⟩) (by assumption) ?_
            rotate_left
            · (intro w hSw; (try dsimp only at hSw); go_simp; try with_reducible rfl)
            try simp only [Act.put, List.setIfInBounds_toArray, List.set_cons_zero, List.set_cons_succ]
            refine wpAnyH_take (i := 16) (oi := { dst := some 89, op := Op.binOp BinOp.eql 27 (Operand.tmp 88) (Operand.const (Value.int IntKind.i64 0)) 27, type := 4, pos := "law.go:138", after := #[{ on := 15, ground := Ground.data }, { on := 14, ground := Ground.guard }], guard := some (14, true) }) (v := ?_) rfl (by kernel_rfl) (by kernel_rfl) (by kernel_rfl) (fun _ _ _ h => h) (Or.inl ⟨by rfl, ?_⟩) (by assumption) ?_
            rotate_left
            · (intro w hSw; (try dsimp only at hSw); go_simp; try with_reducible rfl)
            try simp only [Act.put, List.setIfInBounds_toArray, List.set_cons_zero, List.set_cons_succ]
            refine wpAnyH_take (i := 17) (oi := { dst := some 90, op := Op.pick (Operand.tmp 87) (Operand.tmp 89) (Operand.const (Value.bool false)), type := 4, pos := "law.go:138", after := #[{ on := 14, ground := Ground.data }, { on := 16, ground := Ground.data }], guard := none }) (v := ?_) rfl (by kernel_rfl) (by kernel_rfl) (by kernel_rfl) (fun _ _ _ h => h) (Or.inl ⟨by rfl, ?_⟩) (by assumption) ?_
            rotate_left
            · (intro w hSw; (try dsimp only at hSw); go_simp; try with_reducible rfl)
            try simp only [Act.put, List.setIfInBounds_toArray, List.set_cons_zero, List.set_cons_succ]
            refine wpAnyH_take (i := 18) (oi := { dst := some 91, op := Op.move (Operand.tmp 90), type := 4, pos := "law.go:138", after := #[{ on := 17, ground := Ground.data }, { on := 14, ground := Ground.chain }], guard := none }) (v := ?_) rfl (by kernel_rfl) (by kernel_rfl) (by kernel_rfl) (fun _ _ _ h => h) (Or.inl ⟨by rfl, ?_⟩) (by assumption) ?_
            rotate_left
            · (intro w hSw; (try dsimp only at hSw); go_simp; try with_reducible rfl)
            try simp only [Act.put, List.setIfInBounds_toArray, List.set_cons_zero, List.set_cons_succ]
            refine wpAnyH_take (i := 19) (oi := { dst := some 92, op := Op.move (Operand.tmp 6), type := 9, pos := "law.go:138", after := #[{ on := 18, ground := Ground.guard }], guard := some (18, true) }) (v := ?_) rfl (by kernel_rfl) (by kernel_rfl) (by kernel_rfl) (fun _ _ _ h => h) (Or.inl ⟨by rfl, ?_⟩) (by assumption) ?_
            rotate_left
            · (intro w hSw; (try dsimp only at hSw); go_simp; try with_reducible rfl)
            try simp only [Act.put, List.setIfInBounds_toArray, List.set_cons_zero, List.set_cons_succ]
            refine wpAnyH_take (i := 20) (oi := { dst := some 93, op := Op.move (Operand.tmp 0), type := 9, pos := "law.go:138", after := #[{ on := 18, ground := Ground.guard }], guard := some (18, true) }) (v := ?_) rfl (by kernel_rfl) (by kernel_rfl) (by kernel_rfl) (fun _ _ _ h => h) (Or.inl ⟨by rfl, ?_⟩) (by assumption) ?_
            rotate_left
            · (intro w hSw; (try dsimp only at hSw); go_simp; try with_reducible rfl)
            try simp only [Act.put, List.setIfInBounds_toArray, List.set_cons_zero, List.set_cons_succ]
            refine wpAnyH_take (i := 21) (oi := { dst := some 94, op := Op.binOp BinOp.eql 9 (Operand.tmp 92) (Operand.tmp 93) 9, type := 4, pos := "law.go:138", after := #[{ on := 19, ground := Ground.data }, { on := 20, ground := Ground.data }, { on := 18, ground := Ground.guard }], guard := some (18, true) }) (v := ?_) rfl (by kernel_rfl) (by kernel_rfl) (by kernel_rfl) (fun _ _ _ h => h) (Or.inl ⟨by rfl, ?_⟩) (by assumption) ?_
            rotate_left
            · (intro w hSw; (try dsimp only at hSw); go_simp; try with_reducible rfl)
            try simp only [Act.put, List.setIfInBounds_toArray, List.set_cons_zero, List.set_cons_succ]
            refine wpAnyH_take (i := 22) (oi := { dst := some 95, op := Op.pick (Operand.tmp 91) (Operand.tmp 94) (Operand.const (Value.bool false)), type := 4, pos := "law.go:138", after := #[{ on := 18, ground := Ground.data }, { on := 21, ground := Ground.data }], guard := none }) (v := ?_) rfl (by kernel_rfl) (by kernel_rfl) (by kernel_rfl) (fun _ _ _ h => h) (Or.inl ⟨by rfl, ?_⟩) (by assumption) ?_
            rotate_left
            · (intro w hSw; (try dsimp only at hSw); go_simp; try with_reducible rfl)
            try simp only [Act.put, List.setIfInBounds_toArray, List.set_cons_zero, List.set_cons_succ]
            refine wpAnyH_take (i := 23) (oi := { dst := some 2, op := Op.assign (Operand.tmp 95), type := 4, pos := "law.go:138", after := #[{ on := 22, ground := Ground.data }, { on := 18, ground := Ground.chain }, { on := 0, ground := Ground.phase }, { on := 1, ground := Ground.phase }, { on := 2, ground := Ground.phase }, { on := 3, ground := Ground.phase }, { on := 4, ground := Ground.phase }, { on := 5, ground := Ground.phase }, { on := 6, ground := Ground.phase }, { on := 7, ground := Ground.phase }, { on := 8, ground := Ground.phase }, { on := 9, ground := Ground.phase }, { on := 10, ground := Ground.phase }, { on := 11, ground := Ground.phase }, { on := 12, ground := Ground.phase }, { on := 13, ground := Ground.phase }, { on := 14, ground := Ground.phase }, { on := 15, ground := Ground.phase }, { on := 16, ground := Ground.phase }, { on := 17, ground := Ground.phase }, { on := 18, ground := Ground.phase }, { on := 19, ground := Ground.phase }, { on := 20, ground := Ground.phase }, { on := 21, ground := Ground.phase }, { on := 22, ground := Ground.phase }], guard := none }) (v := ?_) rfl (by kernel_rfl) (by kernel_rfl) (by kernel_rfl) (fun _ _ _ h => h) (Or.inl ⟨by rfl, ?_⟩) (by assumption) ?_
            rotate_left
            · (intro w hSw; (try dsimp only at hSw); go_simp; try with_reducible rfl)
            try simp only [Act.put, List.setIfInBounds_toArray, List.set_cons_zero, List.set_cons_succ]
            refine wpAnyH_done (by kernel_rfl) ?_ _
            refine NoPanic.normal ?_
            go_wp2
            go_ret
            exact ⟨rfl, hO.trans (by first | exact ((Chgd.refl _ _).alloc _).drew | exact (Chgd.refl _ _).drew.alloc _) (fun _ _ h => h)⟩
          exact AllReadyH.nil
        exact AllReadyH.nil
      refine AllReadyH.cons (o := { dst := some 81, op := Op.buildSlice 24 1 #[(0, Operand.tmp 80)], type := 24, pos := "law.go:138", after := #[{ on := 7, ground := Ground.data }, { on := 2, ground := Ground.guard }], guard := some (2, true) }) rfl (fun K hK => ?_) ?_
      · go_simp
        refine hK.out _ _ ?_ (fun hHeld => ?_)
        · first | assumption | (refine NW.keep (S := fun _ => False) (by assumption) (by first | exact (Chgd.refl _ _).drew | exact (Chgd.refl _ _).alloc _ | exact (Chgd.refl _ _).drew.alloc _) (fun h => h) (fun _ _ _ h => h))
        clear hK K
        try simp only [Act.put, List.setIfInBounds_toArray, List.set_cons_zero, List.set_cons_succ]
        refine wpAnyH_ready (rs := [4, 9]) (by kernel_rfl) (by simp) ?_
        refine AllReadyH.cons (o := { dst := some 77, op := Op.call { callee := Callee.value (Operand.func 11), args := #[Operand.tmp 76], argTypes := #[23] }, type := 9, pos := "law.go:138", after := #[{ on := 3, ground := Ground.data }, { on := 2, ground := Ground.chain }, { on := 2, ground := Ground.guard }], guard := some (2, true) }) rfl (fun K hK => ?_) ?_
        · go_simp
          (go_at_call 11; refine (wbytes_any _ _ _ _ _ (by assumption)).mono ?_; rintro e w10 ⟨rfl, rfl⟩; rw [← HbC.out])
          refine hK.out _ _ ?_ (fun hHeld => ?_)
          · first | assumption | (refine NW.keep (S := fun _ => False) (by assumption) (by first | exact (Chgd.refl _ _).drew | exact (Chgd.refl _ _).alloc _ | exact (Chgd.refl _ _).drew.alloc _) (fun h => h) (fun _ _ _ h => h))
          clear hK K
          try simp only [Act.put, List.setIfInBounds_toArray, List.set_cons_zero, List.set_cons_succ]
          refine wpAnyH_ready (rs := [9]) (by kernel_rfl) (by simp) ?_
          refine AllReadyH.cons (o := { dst := some 82, op := Op.convert 24 9 (Operand.tmp 81), type := 9, pos := "law.go:138", after := #[{ on := 8, ground := Ground.data }, { on := 2, ground := Ground.guard }], guard := some (2, true) }) rfl (fun K hK => ?_) ?_
          · go_simp
            refine hK.out _ _ ?_ (fun hHeld => ?_)
            · first | assumption | (refine NW.keep (S := fun _ => False) (by assumption) (by first | exact (Chgd.refl _ _).drew | exact (Chgd.refl _ _).alloc _ | exact (Chgd.refl _ _).drew.alloc _) (fun h => h) (fun _ _ _ h => h))
            clear hK K
            try simp only [Act.put, List.setIfInBounds_toArray, List.set_cons_zero, List.set_cons_succ]
            refine wpAnyH_take (i := 11) (oi := { dst := some 84, op := Op.binOp BinOp.add 9 (Operand.tmp 82) (Operand.tmp 83) 9, type := 9, pos := "law.go:138", after := #[{ on := 9, ground := Ground.data }, { on := 10, ground := Ground.data }, { on := 2, ground := Ground.guard }], guard := some (2, true) }) (v := ?_) rfl (by kernel_rfl) (by kernel_rfl) (by kernel_rfl) (fun _ _ _ h => h) (Or.inl ⟨by rfl, ?_⟩) (by assumption) ?_
            rotate_left
            · (intro w hSw; (try dsimp only at hSw); go_simp; try with_reducible rfl)
            try simp only [Act.put, List.setIfInBounds_toArray, List.set_cons_zero, List.set_cons_succ]
            refine wpAnyH_take (i := 12) (oi := { dst := some 85, op := Op.binOp BinOp.eql 9 (Operand.tmp 77) (Operand.tmp 84) 9, type := 4, pos := "law.go:138", after := #[{ on := 4, ground := Ground.data }, { on := 11, ground := Ground.data }, { on := 2, ground := Ground.guard }], guard := some (2, true) }) (v := ?_) rfl (by kernel_rfl) (by kernel_rfl) (by kernel_rfl) (fun _ _ _ h => h) (Or.inl ⟨by rfl, ?_⟩) (by assumption) ?_
            rotate_left
            · (intro w hSw; (try dsimp only at hSw); go_simp; try with_reducible rfl)
            try simp only [Act.put, List.setIfInBounds_toArray, List.set_cons_zero, List.set_cons_succ]
            refine wpAnyH_take (i := 13) (oi := { dst := some 86, op := Op.pick (Operand.tmp 75) (Operand.tmp 85) (Operand.const (Value.bool false)), type := 4, pos := "law.go:138", after := #[{ on := 2, ground := Ground.data }, { on := 12, ground := Ground.data }], guard := none }) (v := ?_) rfl (by kernel_rfl) (by kernel_rfl) (by kernel_rfl) (fun _ _ _ h => h) (Or.inl ⟨by rfl, ?_⟩) (by assumption) ?_
            rotate_left
            · (intro w hSw; (try dsimp only at hSw); go_simp; try with_reducible rfl)
            try simp only [Act.put, List.setIfInBounds_toArray, List.set_cons_zero, List.set_cons_succ]
            refine wpAnyH_take (i := 14) (oi := { dst := some 87, op := Op.move (Operand.tmp 86), type := 4, pos := "law.go:138", after := #[{ on := 13, ground := Ground.data }, { on := 4, ground := Ground.chain }], guard := none }) (v := ?_) rfl (by kernel_rfl) (by kernel_rfl) (by kernel_rfl) (fun _ _ _ h => h) (Or.inl ⟨by rfl, ?_⟩) (by assumption) ?_
            rotate_left
            · (intro w hSw; (try dsimp only at hSw); go_simp; try with_reducible rfl)
            try simp only [Act.put, List.setIfInBounds_toArray, List.set_cons_zero, List.set_cons_succ]
            refine wpAnyH_take (i := 15) (oi := { dst := some 88, op := Op.move (Operand.tmp 7), type := 27, pos := "law.go:138", after := #[{ on := 14, ground := Ground.guard }], guard := some (14, true) }) (v := ?_) rfl (by kernel_rfl) (by kernel_rfl) (by kernel_rfl) (fun _ _ _ h => h) (Or.inl ⟨by rfl, ?_⟩) (by assumption) ?_
            rotate_left
            · (intro w hSw; (try dsimp only at hSw); go_simp; try with_reducible rfl)
            try simp only [Act.put, List.setIfInBounds_toArray, List.set_cons_zero, List.set_cons_succ]
            refine wpAnyH_take (i := 16) (oi := { dst := some 89, op := Op.binOp BinOp.eql 27 (Operand.tmp 88) (Operand.const (Value.int IntKind.i64 0)) 27, type := 4, pos := "law.go:138", after := #[{ on := 15, ground := Ground.data }, { on := 14, ground := Ground.guard }], guard := some (14, true) }) (v := ?_) rfl (by kernel_rfl) (by kernel_rfl) (by kernel_rfl) (fun _ _ _ h => h) (Or.inl ⟨by rfl, ?_⟩) (by assumption) ?_
            rotate_left
            · (intro w hSw; (try dsimp only at hSw); go_simp; try with_reducible rfl)
            try simp only [Act.put, List.setIfInBounds_toArray, List.set_cons_zero, List.set_cons_succ]
            refine wpAnyH_take (i := 17) (oi := { dst := some 90, op := Op.pick (Operand.tmp 87) (Operand.tmp 89) (Operand.const (Value.bool false)), type := 4, pos := "law.go:138", after := #[{ on := 14, ground := Ground.data }, { on := 16, ground := Ground.data }], guard := none }) (v := ?_) rfl (by kernel_rfl) (by kernel_rfl) (by kernel_rfl) (fun _ _ _ h => h) (Or.inl ⟨by rfl, ?_⟩) (by assumption) ?_
            rotate_left
            · (intro w hSw; (try dsimp only at hSw); go_simp; try with_reducible rfl)
            try simp only [Act.put, List.setIfInBounds_toArray, List.set_cons_zero, List.set_cons_succ]
            refine wpAnyH_take (i := 18) (oi := { dst := some 91, op := Op.move (Operand.tmp 90), type := 4, pos := "law.go:138", after := #[{ on := 17, ground := Ground.data }, { on := 14, ground := Ground.chain }], guard := none }) (v := ?_) rfl (by kernel_rfl) (by kernel_rfl) (by kernel_rfl) (fun _ _ _ h => h) (Or.inl ⟨by rfl, ?_⟩) (by assumption) ?_
            rotate_left
            · (intro w hSw; (try dsimp only at hSw); go_simp; try with_reducible rfl)
            try simp only [Act.put, List.setIfInBounds_toArray, List.set_cons_zero, List.set_cons_succ]
            refine wpAnyH_take (i := 19) (oi := { dst := some 92, op := Op.move (Operand.tmp 6), type := 9, pos := "law.go:138", after := #[{ on := 18, ground := Ground.guard }], guard := some (18, true) }) (v := ?_) rfl (by kernel_rfl) (by kernel_rfl) (by kernel_rfl) (fun _ _ _ h => h) (Or.inl ⟨by rfl, ?_⟩) (by assumption) ?_
            rotate_left
            · (intro w hSw; (try dsimp only at hSw); go_simp; try with_reducible rfl)
            try simp only [Act.put, List.setIfInBounds_toArray, List.set_cons_zero, List.set_cons_succ]
            refine wpAnyH_take (i := 20) (oi := { dst := some 93, op := Op.move (Operand.tmp 0), type := 9, pos := "law.go:138", after := #[{ on := 18, ground := Ground.guard }], guard := some (18, true) }) (v := ?_) rfl (by kernel_rfl) (by kernel_rfl) (by kernel_rfl) (fun _ _ _ h => h) (Or.inl ⟨by rfl, ?_⟩) (by assumption) ?_
            rotate_left
            · (intro w hSw; (try dsimp only at hSw); go_simp; try with_reducible rfl)
            try simp only [Act.put, List.setIfInBounds_toArray, List.set_cons_zero, List.set_cons_succ]
            refine wpAnyH_take (i := 21) (oi := { dst := some 94, op := Op.binOp BinOp.eql 9 (Operand.tmp 92) (Operand.tmp 93) 9, type := 4, pos := "law.go:138", after := #[{ on := 19, ground := Ground.data }, { on := 20, ground := Ground.data }, { on := 18, ground := Ground.guard }], guard := some (18, true) }) (v := ?_) rfl (by kernel_rfl) (by kernel_rfl) (by kernel_rfl) (fun _ _ _ h => h) (Or.inl ⟨by rfl, ?_⟩) (by assumption) ?_
            rotate_left
            · (intro w hSw; (try dsimp only at hSw); go_simp; try with_reducible rfl)
            try simp only [Act.put, List.setIfInBounds_toArray, List.set_cons_zero, List.set_cons_succ]
            refine wpAnyH_take (i := 22) (oi := { dst := some 95, op := Op.pick (Operand.tmp 91) (Operand.tmp 94) (Operand.const (Value.bool false)), type := 4, pos := "law.go:138", after := #[{ on := 18, ground := Ground.data }, { on := 21, ground := Ground.data }], guard := none }) (v := ?_) rfl (by kernel_rfl) (by kernel_rfl) (by kernel_rfl) (fun _ _ _ h => h) (Or.inl ⟨by rfl, ?_⟩) (by assumption) ?_
            rotate_left
            · (intro w hSw; (try dsimp only at hSw); go_simp; try with_reducible rfl)
            try simp only [Act.put, List.setIfInBounds_toArray, List.set_cons_zero, List.set_cons_succ]
            refine wpAnyH_take (i := 23) (oi := { dst := some 2, op := Op.assign (Operand.tmp 95), type := 4, pos := "law.go:138", after := #[{ on := 22, ground := Ground.data }, { on := 18, ground := Ground.chain }, { on := 0, ground := Ground.phase }, { on := 1, ground := Ground.phase }, { on := 2, ground := Ground.phase }, { on := 3, ground := Ground.phase }, { on := 4, ground := Ground.phase }, { on := 5, ground := Ground.phase }, { on := 6, ground := Ground.phase }, { on := 7, ground := Ground.phase }, { on := 8, ground := Ground.phase }, { on := 9, ground := Ground.phase }, { on := 10, ground := Ground.phase }, { on := 11, ground := Ground.phase }, { on := 12, ground := Ground.phase }, { on := 13, ground := Ground.phase }, { on := 14, ground := Ground.phase }, { on := 15, ground := Ground.phase }, { on := 16, ground := Ground.phase }, { on := 17, ground := Ground.phase }, { on := 18, ground := Ground.phase }, { on := 19, ground := Ground.phase }, { on := 20, ground := Ground.phase }, { on := 21, ground := Ground.phase }, { on := 22, ground := Ground.phase }], guard := none }) (v := ?_) rfl (by kernel_rfl) (by kernel_rfl) (by kernel_rfl) (fun _ _ _ h => h) (Or.inl ⟨by rfl, ?_⟩) (by assumption) ?_
            rotate_left
            · (intro w hSw; (try dsimp only at hSw); go_simp; try with_reducible rfl)
            try simp only [Act.put, List.setIfInBounds_toArray, List.set_cons_zero, List.set_cons_succ]
            refine wpAnyH_done (by kernel_rfl) ?_ _
            refine NoPanic.normal ?_
            go_wp2
            go_ret
            exact ⟨rfl, hO.trans (by first | exact ((Chgd.refl _ _).alloc _).drew | exact (Chgd.refl _ _).drew.alloc _) (fun _ _ h => h)⟩
          exact AllReadyH.nil
        refine AllReadyH.cons (o := { dst := some 82, op := Op.convert 24 9 (Operand.tmp 81), type := 9, pos := "law.go:138", after := #[{ on := 8, ground := Ground.data }, { on := 2, ground := Ground.guard }], guard := some (2, true) }) rfl (fun K hK => ?_) ?_
        · go_simp
          refine hK.out _ _ ?_ (fun hHeld => ?_)
          · first | assumption | (refine NW.keep (S := fun _ => False) (by assumption) (by first | exact (Chgd.refl _ _).drew | exact (Chgd.refl _ _).alloc _ | exact (Chgd.refl _ _).drew.alloc _) (fun h => h) (fun _ _ _ h => h))
          clear hK K
          try simp only [Act.put, List.setIfInBounds_toArray, List.set_cons_zero, List.set_cons_succ]
          refine wpAnyH_take (i := 11) (oi := { dst := some 84, op := Op.binOp BinOp.add 9 (Operand.tmp 82) (Operand.tmp 83) 9, type := 9, pos := "law.go:138", after := #[{ on := 9, ground := Ground.data }, { on := 10, ground := Ground.data }, { on := 2, ground := Ground.guard }], guard := some (2, true) }) (v := ?_) rfl (by kernel_rfl) (by kernel_rfl) (by kernel_rfl) (fun _ _ _ h => h) (Or.inl ⟨by rfl, ?_⟩) (by assumption) ?_
          rotate_left
          · (intro w hSw; (try dsimp only at hSw); go_simp; try with_reducible rfl)
          try simp only [Act.put, List.setIfInBounds_toArray, List.set_cons_zero, List.set_cons_succ]
          refine wpAnyH_ready (rs := [4]) (by kernel_rfl) (by simp) ?_
          refine AllReadyH.cons (o := { dst := some 77, op := Op.call { callee := Callee.value (Operand.func 11), args := #[Operand.tmp 76], argTypes := #[23] }, type := 9, pos := "law.go:138", after := #[{ on := 3, ground := Ground.data }, { on := 2, ground := Ground.chain }, { on := 2, ground := Ground.guard }], guard := some (2, true) }) rfl (fun K hK => ?_) ?_
          · go_simp
            (go_at_call 11; refine (wbytes_any _ _ _ _ _ (by assumption)).mono ?_; rintro e w10 ⟨rfl, rfl⟩; rw [← HbC.out])
            refine hK.out _ _ ?_ (fun hHeld => ?_)
            · first | assumption | (refine NW.keep (S := fun _ => False) (by assumption) (by first | exact (Chgd.refl _ _).drew | exact (Chgd.refl _ _).alloc _ | exact (Chgd.refl _ _).drew.alloc _) (fun h => h) (fun _ _ _ h => h))
            clear hK K
            try simp only [Act.put, List.setIfInBounds_toArray, List.set_cons_zero, List.set_cons_succ]
            refine wpAnyH_take (i := 12) (oi := { dst := some 85, op := Op.binOp BinOp.eql 9 (Operand.tmp 77) (Operand.tmp 84) 9, type := 4, pos := "law.go:138", after := #[{ on := 4, ground := Ground.data }, { on := 11, ground := Ground.data }, { on := 2, ground := Ground.guard }], guard := some (2, true) }) (v := ?_) rfl (by kernel_rfl) (by kernel_rfl) (by kernel_rfl) (fun _ _ _ h => h) (Or.inl ⟨by rfl, ?_⟩) (by assumption) ?_
            rotate_left
            · (intro w hSw; (try dsimp only at hSw); go_simp; try with_reducible rfl)
            try simp only [Act.put, List.setIfInBounds_toArray, List.set_cons_zero, List.set_cons_succ]
            refine wpAnyH_take (i := 13) (oi := { dst := some 86, op := Op.pick (Operand.tmp 75) (Operand.tmp 85) (Operand.const (Value.bool false)), type := 4, pos := "law.go:138", after := #[{ on := 2, ground := Ground.data }, { on := 12, ground := Ground.data }], guard := none }) (v := ?_) rfl (by kernel_rfl) (by kernel_rfl) (by kernel_rfl) (fun _ _ _ h => h) (Or.inl ⟨by rfl, ?_⟩) (by assumption) ?_
            rotate_left
            · (intro w hSw; (try dsimp only at hSw); go_simp; try with_reducible rfl)
            try simp only [Act.put, List.setIfInBounds_toArray, List.set_cons_zero, List.set_cons_succ]
            refine wpAnyH_take (i := 14) (oi := { dst := some 87, op := Op.move (Operand.tmp 86), type := 4, pos := "law.go:138", after := #[{ on := 13, ground := Ground.data }, { on := 4, ground := Ground.chain }], guard := none }) (v := ?_) rfl (by kernel_rfl) (by kernel_rfl) (by kernel_rfl) (fun _ _ _ h => h) (Or.inl ⟨by rfl, ?_⟩) (by assumption) ?_
            rotate_left
            · (intro w hSw; (try dsimp only at hSw); go_simp; try with_reducible rfl)
            try simp only [Act.put, List.setIfInBounds_toArray, List.set_cons_zero, List.set_cons_succ]
            refine wpAnyH_take (i := 15) (oi := { dst := some 88, op := Op.move (Operand.tmp 7), type := 27, pos := "law.go:138", after := #[{ on := 14, ground := Ground.guard }], guard := some (14, true) }) (v := ?_) rfl (by kernel_rfl) (by kernel_rfl) (by kernel_rfl) (fun _ _ _ h => h) (Or.inl ⟨by rfl, ?_⟩) (by assumption) ?_
            rotate_left
            · (intro w hSw; (try dsimp only at hSw); go_simp; try with_reducible rfl)
            try simp only [Act.put, List.setIfInBounds_toArray, List.set_cons_zero, List.set_cons_succ]
            refine wpAnyH_take (i := 16) (oi := { dst := some 89, op := Op.binOp BinOp.eql 27 (Operand.tmp 88) (Operand.const (Value.int IntKind.i64 0)) 27, type := 4, pos := "law.go:138", after := #[{ on := 15, ground := Ground.data }, { on := 14, ground := Ground.guard }], guard := some (14, true) }) (v := ?_) rfl (by kernel_rfl) (by kernel_rfl) (by kernel_rfl) (fun _ _ _ h => h) (Or.inl ⟨by rfl, ?_⟩) (by assumption) ?_
            rotate_left
            · (intro w hSw; (try dsimp only at hSw); go_simp; try with_reducible rfl)
            try simp only [Act.put, List.setIfInBounds_toArray, List.set_cons_zero, List.set_cons_succ]
            refine wpAnyH_take (i := 17) (oi := { dst := some 90, op := Op.pick (Operand.tmp 87) (Operand.tmp 89) (Operand.const (Value.bool false)), type := 4, pos := "law.go:138", after := #[{ on := 14, ground := Ground.data }, { on := 16, ground := Ground.data }], guard := none }) (v := ?_) rfl (by kernel_rfl) (by kernel_rfl) (by kernel_rfl) (fun _ _ _ h => h) (Or.inl ⟨by rfl, ?_⟩) (by assumption) ?_
            rotate_left
            · (intro w hSw; (try dsimp only at hSw); go_simp; try with_reducible rfl)
            try simp only [Act.put, List.setIfInBounds_toArray, List.set_cons_zero, List.set_cons_succ]
            refine wpAnyH_take (i := 18) (oi := { dst := some 91, op := Op.move (Operand.tmp 90), type := 4, pos := "law.go:138", after := #[{ on := 17, ground := Ground.data }, { on := 14, ground := Ground.chain }], guard := none }) (v := ?_) rfl (by kernel_rfl) (by kernel_rfl) (by kernel_rfl) (fun _ _ _ h => h) (Or.inl ⟨by rfl, ?_⟩) (by assumption) ?_
            rotate_left
            · (intro w hSw; (try dsimp only at hSw); go_simp; try with_reducible rfl)
            try simp only [Act.put, List.setIfInBounds_toArray, List.set_cons_zero, List.set_cons_succ]
            refine wpAnyH_take (i := 19) (oi := { dst := some 92, op := Op.move (Operand.tmp 6), type := 9, pos := "law.go:138", after := #[{ on := 18, ground := Ground.guard }], guard := some (18, true) }) (v := ?_) rfl (by kernel_rfl) (by kernel_rfl) (by kernel_rfl) (fun _ _ _ h => h) (Or.inl ⟨by rfl, ?_⟩) (by assumption) ?_
            rotate_left
            · (intro w hSw; (try dsimp only at hSw); go_simp; try with_reducible rfl)
            try simp only [Act.put, List.setIfInBounds_toArray, List.set_cons_zero, List.set_cons_succ]
            refine wpAnyH_take (i := 20) (oi := { dst := some 93, op := Op.move (Operand.tmp 0), type := 9, pos := "law.go:138", after := #[{ on := 18, ground := Ground.guard }], guard := some (18, true) }) (v := ?_) rfl (by kernel_rfl) (by kernel_rfl) (by kernel_rfl) (fun _ _ _ h => h) (Or.inl ⟨by rfl, ?_⟩) (by assumption) ?_
            rotate_left
            · (intro w hSw; (try dsimp only at hSw); go_simp; try with_reducible rfl)
            try simp only [Act.put, List.setIfInBounds_toArray, List.set_cons_zero, List.set_cons_succ]
            refine wpAnyH_take (i := 21) (oi := { dst := some 94, op := Op.binOp BinOp.eql 9 (Operand.tmp 92) (Operand.tmp 93) 9, type := 4, pos := "law.go:138", after := #[{ on := 19, ground := Ground.data }, { on := 20, ground := Ground.data }, { on := 18, ground := Ground.guard }], guard := some (18, true) }) (v := ?_) rfl (by kernel_rfl) (by kernel_rfl) (by kernel_rfl) (fun _ _ _ h => h) (Or.inl ⟨by rfl, ?_⟩) (by assumption) ?_
            rotate_left
            · (intro w hSw; (try dsimp only at hSw); go_simp; try with_reducible rfl)
            try simp only [Act.put, List.setIfInBounds_toArray, List.set_cons_zero, List.set_cons_succ]
            refine wpAnyH_take (i := 22) (oi := { dst := some 95, op := Op.pick (Operand.tmp 91) (Operand.tmp 94) (Operand.const (Value.bool false)), type := 4, pos := "law.go:138", after := #[{ on := 18, ground := Ground.data }, { on := 21, ground := Ground.data }], guard := none }) (v := ?_) rfl (by kernel_rfl) (by kernel_rfl) (by kernel_rfl) (fun _ _ _ h => h) (Or.inl ⟨by rfl, ?_⟩) (by assumption) ?_
            rotate_left
            · (intro w hSw; (try dsimp only at hSw); go_simp; try with_reducible rfl)
            try simp only [Act.put, List.setIfInBounds_toArray, List.set_cons_zero, List.set_cons_succ]
            refine wpAnyH_take (i := 23) (oi := { dst := some 2, op := Op.assign (Operand.tmp 95), type := 4, pos := "law.go:138", after := #[{ on := 22, ground := Ground.data }, { on := 18, ground := Ground.chain }, { on := 0, ground := Ground.phase }, { on := 1, ground := Ground.phase }, { on := 2, ground := Ground.phase }, { on := 3, ground := Ground.phase }, { on := 4, ground := Ground.phase }, { on := 5, ground := Ground.phase }, { on := 6, ground := Ground.phase }, { on := 7, ground := Ground.phase }, { on := 8, ground := Ground.phase }, { on := 9, ground := Ground.phase }, { on := 10, ground := Ground.phase }, { on := 11, ground := Ground.phase }, { on := 12, ground := Ground.phase }, { on := 13, ground := Ground.phase }, { on := 14, ground := Ground.phase }, { on := 15, ground := Ground.phase }, { on := 16, ground := Ground.phase }, { on := 17, ground := Ground.phase }, { on := 18, ground := Ground.phase }, { on := 19, ground := Ground.phase }, { on := 20, ground := Ground.phase }, { on := 21, ground := Ground.phase }, { on := 22, ground := Ground.phase }], guard := none }) (v := ?_) rfl (by kernel_rfl) (by kernel_rfl) (by kernel_rfl) (fun _ _ _ h => h) (Or.inl ⟨by rfl, ?_⟩) (by assumption) ?_
            rotate_left
            · (intro w hSw; (try dsimp only at hSw); go_simp; try with_reducible rfl)
            try simp only [Act.put, List.setIfInBounds_toArray, List.set_cons_zero, List.set_cons_succ]
            refine wpAnyH_done (by kernel_rfl) ?_ _
            refine NoPanic.normal ?_
            go_wp2
            go_ret
            exact ⟨rfl, hO.trans (by first | exact ((Chgd.refl _ _).alloc _).drew | exact (Chgd.refl _ _).drew.alloc _) (fun _ _ h => h)⟩
          exact AllReadyH.nil
        exact AllReadyH.nil
      exact AllReadyH.nil
    · have hb64 : 64 < b.size := by omega
      have TW : textW s = ([], 12) := by unfold textW; rw [if_neg c64]
      have hT : ∃ Y er Z, textOf C = (Y, er, Z) ∧ Z.length ≤ C.length ∧ ((64 < s.length % 256 ∧ er = 12 ∧ Z = C) ∨ (s.length % 256 ≤ 64 ∧ er = 0)) := by
        refine ⟨(textOf C).1, (textOf C).2.1, (textOf C).2.2, rfl, textOf_len C, ?_⟩
        rw [hC, textOf_cons, ec]
        by_cases c : 64 < s.length % 256
        · rw [if_pos c]; exact .inl ⟨c, rfl, rfl⟩
        · rw [if_neg c, if_neg (by omega)]; exact .inr ⟨by omega, rfl⟩
      obtain ⟨Y, er, Z, TO, hZ, hor⟩ := hT
      have HH := Lib.hid (⟨TW, TO, hb, hsz, hlC⟩ : _ ∧ _ ∧ _ ∧ _ ∧ _)
      have hlb : C.length = b.size + 1 := by omega
      have hs3 := Lib.hid (show s.length ≤ 300 by omega)
      have hCC := Lib.hid hCs
      rw [← hsz] at hor
      clear hC hsz hlC hb hs h300 ec TW TO c64 hCs
      obtain ⟨bC, hbC⟩ : ∃ bC, bC = bstr C := ⟨_, rfl⟩
      have hCs : ({ data := #[UInt8.ofNat (b.size % 256)] } : ByteArray) ++ b = bC := by rw [hbC]; exact hCC.out
      have HbC := Lib.hid hbC
      clear hbC
      go_enter Try.func5, Try.ntmps5
      go_wp2_with fail
      refine (shown_any _).mono ?_
      rintro e w1 ⟨rfl, c1⟩
      go_wp2_with fail
      have N1 := NW.fresh w1 26 0 0
      have hO := c1.trans ((Chgd.refl (fun _ => False) w1).alloc (.cells #[.slice none 0 0] 26)) (fun _ _ h => h)
      have TT := text_any (w1.heap.size + 1) (w1.heap.size + 1) _ _ s _ (N1.empty _) (by simp) (by simp) (by simp) (by have := hs3.out; omega)
      rw [HH.out.1, ← HH.out.2.2.1] at TT
      refine TT.mono ?_
      rintro e w2 ⟨rfl, N2, c2⟩
      simp only [List.nil_append] at N2
      have z1 := c1.size
      replace hO := hO.trans c2 (fun j hj h => by unfold WS at h; omega)
      have z2 := c2.size
      simp only [World.size_alloc] at z2
      clear c2 N1 TT c1
      go_wp2_with fail
      have hD := (Chgd.refl (fun _ => False) w2).alloc (.cells #[.int .u8 (b.size % 256)] 5)
      rw [HbC.out]
      refine (rnew_any C _).mono ?_
      rintro e w5 ⟨rfl, R5, c5, z5⟩
      replace hD := hD.trans c5 (fun j hj h => h)
      rw [World.size_alloc] at z5 R5
      clear c5
      go_wp2_with fail
      refine (rtext_any _ C w5 R5 (by have := hs3.out; omega)).mono ?_
      rw [HH.out.2.1]
      rintro e w6 ⟨rfl, R6, c6⟩
      replace hO := (hO.trans hD (fun j hj h => h)).trans c6 (fun j hj h => by omega)
      replace N2 := (N2.keep hD (fun h => h) (fun _ _ _ h => h)).keep c6 (by omega) (fun k _ _ h => by omega)
      clear c6 R5 hD
      have hnil : ((bstr []).toList == []) = true := by rw [bstr_toList]; rfl
      rcases hor with ⟨h1, rfl, rfl⟩ | ⟨h1, rfl⟩
      all_goals
        go_wp2_with (first
          | (go_at_call 11; refine (wbytes_any _ _ _ _ w6 N2).mono ?_; rintro e w10 ⟨rfl, rfl⟩)
          | (go_at_call 19; refine (left_any _ _ w6 R6).mono ?_; rintro e w10 ⟨rfl, rfl⟩))
        go_ret
        exact ⟨rfl, hO⟩
end Go.Proofs.Ytkgmjphdocmodaa.Octet
