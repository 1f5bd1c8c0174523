/- OctetCut's walk. -/
import Derived.Test.YtkgmjphdocmodaaOctetL
namespace Go.Proofs.Ytkgmjphdocmodaa.Octet
open Go.RowKit Go.Proofs.Ytkgmjphdocmodaa.Mem

/-- What is read of the first k bytes. -/
theorem cut_facts (n k : Nat) (h s : List UInt8) (hn : n < 18446744073709551616) (hh : h.length = 32) (hs : s.length ≤ 64) (hk : k < 41 + s.length) :
    ∃ hx ge P1 y ie P2 te je P3, hashOf (((h ++ be 8 n) ++ (UInt8.ofNat s.length :: s)).take k) = (hx, ge, P1) ∧ numOf 8 P1 = (y, ie, P2) ∧ textOf P2 = (te, je, P3) ∧ hx.length = 32 ∧ P1.length ≤ 200 ∧ P2.length ≤ 200 ∧
      ((k < 32 ∧ ge = 10) ∨ (32 ≤ k ∧ k < 40 ∧ ge = 0 ∧ hx = h ∧ ie = 10) ∨ (40 ≤ k ∧ ge = 0 ∧ hx = h ∧ ie = 0 ∧ y = n ∧ je = 10)) := by
  have hb := be_length 8 n
  have hcs : (UInt8.ofNat s.length).toNat = s.length := by simp; omega
  obtain ⟨X, hX⟩ : ∃ X, X = ((h ++ be 8 n) ++ (UInt8.ofNat s.length :: s)).take k := ⟨_, rfl⟩
  rw [← hX]
  refine ⟨(hashOf X).1, (hashOf X).2.1, (hashOf X).2.2, (numOf 8 (hashOf X).2.2).1, (numOf 8 (hashOf X).2.2).2.1, (numOf 8 (hashOf X).2.2).2.2, (textOf (numOf 8 (hashOf X).2.2).2.2).1, (textOf (numOf 8 (hashOf X).2.2).2.2).2.1, (textOf (numOf 8 (hashOf X).2.2).2.2).2.2, rfl, rfl, rfl, ?_, ?_, ?_, ?_⟩
  · exact (hashOf_len _).2
  · have := (hashOf_len X).1
    have h2 : X.length ≤ 41 + s.length := by rw [hX, List.length_take]; omega
    omega
  · have h1 := (hashOf_len X).1
    have h2 : X.length ≤ 41 + s.length := by rw [hX, List.length_take]; omega
    have h3 := numOf_len 8 (hashOf X).2.2
    omega
  · by_cases c1 : k < 32
    · refine .inl ⟨c1, ?_⟩
      unfold hashOf
      rw [hX, if_pos (by rw [List.length_take]; omega)]
    · have e1 : ((h ++ be 8 n) ++ (UInt8.ofNat s.length :: s)).take k = h ++ (be 8 n ++ (UInt8.ofNat s.length :: s)).take (k - 32) := by
        rw [List.append_assoc, List.take_append, hh, List.take_of_length_le (by omega)]
      rw [hX, e1, hashOf_hash h _ hh]
      by_cases c2 : k < 40
      · refine .inr (.inl ⟨by omega, c2, rfl, rfl, ?_⟩)
        show (numOf 8 ((be 8 n ++ (UInt8.ofNat s.length :: s)).take (k - 32))).2.1 = 10
        unfold numOf
        rw [if_neg (by omega), if_pos (by rw [List.length_take]; simp; omega)]
      · refine .inr (.inr ⟨by omega, rfl, rfl, ?_⟩)
        have e2 : (be 8 n ++ (UInt8.ofNat s.length :: s)).take (k - 32) = be 8 n ++ (UInt8.ofNat s.length :: s).take (k - 40) := by
          rw [List.take_append, hb, List.take_of_length_le (by omega), show k - 32 - 8 = k - 40 by omega]
        have e3 := numOf_be 8 n ((UInt8.ofNat s.length :: s).take (k - 40)) (by omega) (by omega) (by simpa using hn)
        show (numOf 8 ((be 8 n ++ (UInt8.ofNat s.length :: s)).take (k - 32))).2.1 = 0 ∧ (numOf 8 ((be 8 n ++ (UInt8.ofNat s.length :: s)).take (k - 32))).1 = n ∧ (textOf (numOf 8 ((be 8 n ++ (UInt8.ofNat s.length :: s)).take (k - 32))).2.2).2.1 = 10
        rw [e2]
        have e4 : (((8 : Nat) : Int)) = 8 := rfl
        rw [e4] at e3
        rw [e3]
        refine ⟨rfl, rfl, ?_⟩
        by_cases c3 : k = 40
        · subst c3; rfl
        · obtain ⟨j, hj⟩ : ∃ j, k - 40 = j + 1 := ⟨k - 41, by omega⟩
          rw [hj, List.take_succ_cons, textOf_cons, hcs, if_neg (by omega), if_pos (by rw [List.length_take]; omega)]

set_option maxHeartbeats 8000000 in
theorem cut_law (n v : Nat) (h s : List UInt8) (w : World) (hn : n < 18446744073709551616) (hv : v ≤ 255) (hh : h.length = 32) (hs : s.length ≤ 140737488351232) :
    Calls Try.prog 7 #[.int .u64 n, .agg (cellsOf h).toArray, .string (bstr s), .int .u8 v] w fun r w' => r = .returned (.bool true) ∧ OnlyNew w w' := by
  have hsz := bstr_size s
  by_cases h64 : 64 < s.length
  · obtain ⟨b, hb⟩ : ∃ b, b = bstr s := ⟨_, rfl⟩
    rw [← hb] at hsz ⊢
    have hb1 : 64 < b.size := by omega
    obtain ⟨hv2, hve⟩ : ∃ hv2, hv2 = (cellsOf h).toArray := ⟨_, rfl⟩
    rw [← hve]
    clear hve hsz h64 hb
    go_enter Try.func7, Try.ntmps7
    go_wp2_with (go_at_call 10; refine (shown_any _).mono ?_; rintro e w1 ⟨rfl, c1⟩)
    go_ret
    exact ⟨rfl, ((Chgd.refl _ w).alloc _).trans c1 (fun _ _ h => h)⟩
  · have h64' : s.length ≤ 64 := by omega
    obtain ⟨L, hL⟩ : ∃ L, L = (h ++ be 8 n) ++ (UInt8.ofNat s.length :: s) := ⟨_, rfl⟩
    have hLl : L.length = 41 + s.length := by rw [hL]; simp [hh, be_length]; omega
    obtain ⟨k, hk⟩ : ∃ k, k = v % (41 + s.length) := ⟨_, rfl⟩
    have hkl : k < 41 + s.length := by rw [hk]; exact Nat.mod_lt _ (by omega)
    obtain ⟨hx, ge, P1, y, ie, P2, te, je, P3, f1, f2, f3, l0, l1, l2, hc⟩ := cut_facts n k h s hn hh h64' hkl
    rw [← hL] at f1
    have T1 : textW s = (UInt8.ofNat s.length :: s, 0) := by unfold textW; rw [if_pos h64']
    have X1 : numW n 8 = (be 8 n, 0) := by
      unfold numW
      rw [if_pos ⟨by omega, by omega, by simpa using hn⟩]; rfl
    obtain ⟨L2, hL2⟩ : ∃ L2, L2 = h ++ be 8 n := ⟨_, rfl⟩
    rw [← hL2] at hL
    have l3 : L2.length = 40 := by rw [hL2]; simp [hh, be_length]
    obtain ⟨b, hb⟩ : ∃ b, b = bstr s := ⟨_, rfl⟩
    obtain ⟨bL, hbL⟩ : ∃ bL, bL = bstr L := ⟨_, rfl⟩
    have hbLs : bL.size = 41 + s.length := by rw [hbL, bstr_size, hLl]
    have hbs : b.size = s.length := by rw [hb]; exact hsz
    obtain ⟨hv2, hve⟩ : ∃ hv2, hv2 = (cellsOf h).toArray := ⟨_, rfl⟩
    have hsz34 : (Try.prog.info? 34).map (·.size) = some hv2.toList.length := by rw [hve, List.toList_toArray, cellsOf_length, hh]; exact size_hash
    have F := Lib.hid (⟨f1, f2, f3, T1, X1, hL, hL2, hb, hbL, hve⟩ : _ ∧ _ ∧ _ ∧ _ ∧ _ ∧ _ ∧ _ ∧ _ ∧ _ ∧ _)
    have G := Lib.hid (⟨hh, l0, hLl, hs⟩ : _ ∧ _ ∧ _ ∧ _)
    have hb64 : b.size ≤ 64 := by omega
    have hb41 : bL.size = 41 + b.size := by omega
    rw [← hbs] at hk hkl
    have hkI : (v : Int) % (41 + (b.size : Int)) = k := by rw [hk]; simp
    have hex : bL.extract 0 k = bstr (L.take k) := by rw [hbL]; exact extract_take _ _
    have HX := Lib.hid hex
    clear hk hex
    rw [← hb, ← hve]
    clear f1 f2 f3 T1 X1 hL hL2 hb hbL hve hsz h64 h64' hh l0 hLl hs hbLs
    have hbs' := Lib.hid hbs
    clear hbs
    go_enter Try.func7, Try.ntmps7
    go_wp2_with fail
    refine (shown_any _).mono ?_
    rintro e w1 ⟨rfl, c1⟩
    have hC := ((Chgd.refl (fun _ => False) w).alloc (.cells hv2 34)).trans c1 (fun _ _ h => h)
    have B1 := rangeAt.keep (range_new w hv2 34) c1 (fun h => h)
    have z1 : w.heap.size + 1 ≤ w1.heap.size := by simpa using c1.size
    clear c1
    have N1 := NW.fresh w1 26 0 0
    have hC1 := hC.trans ((Chgd.refl (fun _ => False) w1).alloc (.cells #[.slice none 0 0] 26)) (fun _ _ h => h)
    have B2 := rangeAt.keep B1 ((Chgd.refl (fun _ => False) w1).alloc (.cells #[.slice none 0 0] 26)) (fun h => h)
    go_wp2_with (refine wpList_load_mid rfl 34 (.tmp 5) rfl w.heap.size 0 rfl hv2.toList _ B2 Try.underlying34 rfl hsz34 ?_)
    have TT := whash_any (w1.heap.size + 1) (w1.heap.size + 1) _ [] h _ (N1.empty _) (by simp) (by simp) (by simp) G.out.1
    unfold hashV at TT
    rw [← F.out.2.2.2.2.2.2.2.2.2, List.nil_append] at TT
    refine TT.mono ?_
    rintro e w2 ⟨rfl, N2, c2⟩
    clear TT
    replace hC1 := hC1.trans c2 (fun j hj h => by unfold WS at h; omega)
    replace B2 := rangeAt.keep B2 c2 (by unfold WS; omega)
    have z2 := c2.size
    simp only [World.size_alloc] at z2
    clear c2 N1 B1 hC
    go_wp2_with fail
    refine (number_any (w1.heap.size + 1) w2.heap.size _ h n 8 w2 N2 (by omega) (by omega) (by have := G.out.1; omega) (by omega)).mono ?_
    rw [F.out.2.2.2.2.1, ← F.out.2.2.2.2.2.2.1]
    rintro e w3 ⟨rfl, N3, c3⟩
    replace hC1 := hC1.trans c3 (fun j hj h => by unfold WS at h; omega)
    replace B2 := rangeAt.keep B2 c3 (by unfold WS; omega)
    have z3 := c3.size
    clear c3 N2
    go_wp2_with fail
    have TT := text_any (w1.heap.size + 1) w3.heap.size _ L2 s w3 N3 (by omega) (by omega) (by omega) G.out.2.2.2
    rw [F.out.2.2.2.1, ← F.out.2.2.2.2.2.2.2.1] at TT
    simp only [← F.out.2.2.2.2.2.1] at TT
    refine TT.mono ?_
    rintro e w4 ⟨rfl, N4, c4⟩
    clear TT
    replace hC1 := hC1.trans c4 (fun j hj h => by unfold WS at h; omega)
    replace B2 := rangeAt.keep B2 c4 (by unfold WS; omega)
    have z4 := c4.size
    clear c4 N3
    go_wp2_with fail
    refine (wbytes_any _ _ _ _ w4 N4).mono ?_
    rw [← F.out.2.2.2.2.2.2.2.2.1]
    rintro e w5 ⟨rfl, rfl⟩
    go_wp2_with fail
    rw [HX.out]
    refine (rnew_any _ w4).mono ?_
    rintro e w5 ⟨rfl, R5, c5, z5⟩
    replace hC1 := hC1.trans c5 (fun j hj h => h)
    replace B2 := rangeAt.keep B2 c5 (fun h => h)
    clear c5 N4
    go_wp2_with fail
    refine (rhash_any w4.heap.size _ w5 R5 (by rw [List.length_take]; have := G.out.2.2.1; omega)).mono ?_
    rw [F.out.1]
    rintro e w6 ⟨rfl, R6, c6⟩
    replace hC1 := hC1.trans c6 (fun j hj h => by omega)
    replace B2 := rangeAt.keep B2 c6 (by omega)
    clear c6 R5
    have hxs : ((cellsOf hx).toArray).size = 32 := by simp [cellsOf_length, G.out.2.1]
    have hagg : ((cellsOf hx).toArray).all (·.oneCell') = true := by simpa using cellsOf_one hx
    obtain ⟨hx2, hxe⟩ : ∃ hx2, hx2 = (cellsOf hx).toArray := ⟨_, rfl⟩
    rw [← hxe] at hxs hagg ⊢
    have HXE := Lib.hid hxe
    clear hxe
    have hth : (w6.alloc (.cells #[.int .u8 0, .int .u8 0, .int .u8 0, .int .u8 0, .int .u8 0, .int .u8 0, .int .u8 0, .int .u8 0, .int .u8 0, .int .u8 0, .int .u8 0, .int .u8 0, .int .u8 0, .int .u8 0, .int .u8 0, .int .u8 0, .int .u8 0, .int .u8 0, .int .u8 0, .int .u8 0, .int .u8 0, .int .u8 0, .int .u8 0, .int .u8 0, .int .u8 0, .int .u8 0, .int .u8 0, .int .u8 0, .int .u8 0, .int .u8 0, .int .u8 0, .int .u8 0] 34)).there w6.heap.size 0 hx2.size := by
      have := there_new w6 #[.int .u8 0, .int .u8 0, .int .u8 0, .int .u8 0, .int .u8 0, .int .u8 0, .int .u8 0, .int .u8 0, .int .u8 0, .int .u8 0, .int .u8 0, .int .u8 0, .int .u8 0, .int .u8 0, .int .u8 0, .int .u8 0, .int .u8 0, .int .u8 0, .int .u8 0, .int .u8 0, .int .u8 0, .int .u8 0, .int .u8 0, .int .u8 0, .int .u8 0, .int .u8 0, .int .u8 0, .int .u8 0, .int .u8 0, .int .u8 0, .int .u8 0, .int .u8 0] 34
      rw [hxs]
      exact this
    have hsz35 : (Try.prog.info? 34).map (·.size) = some hx2.size := by rw [hxs]; exact size_hash
    have hsz36 : (Try.prog.info? 34).map (·.size) = some hx2.toList.length := by rw [Array.length_toList]; exact hsz35
    have heq : ∀ wx, (Op.equalIn 10000 34 (.agg hx2) (.agg hv2)).run Try.prog wx = .ok (hx == h) wx := fun wx => by
      rw [HXE.out, F.out.2.2.2.2.2.2.2.2.2, eq_hash wx hx h G.out.2.1 G.out.1]
    rcases hc with ⟨k1, rfl⟩ | ⟨k1, k2, rfl, hxh, rfl⟩ | ⟨k1, rfl, hxh, rfl, rfl, rfl⟩
    · go_wp2_with (first
        | (refine wpList_store_agg rfl 34 (.tmp 15) (.tmp 54) rfl w6.heap.size 0 hx2 rfl rfl hth hsz35 hagg ?_; intro w9 B9 _ _ c9; have hD := ((Chgd.refl (fun _ => False) w6).alloc (.cells #[.int .u8 0, .int .u8 0, .int .u8 0, .int .u8 0, .int .u8 0, .int .u8 0, .int .u8 0, .int .u8 0, .int .u8 0, .int .u8 0, .int .u8 0, .int .u8 0, .int .u8 0, .int .u8 0, .int .u8 0, .int .u8 0, .int .u8 0, .int .u8 0, .int .u8 0, .int .u8 0, .int .u8 0, .int .u8 0, .int .u8 0, .int .u8 0, .int .u8 0, .int .u8 0, .int .u8 0, .int .u8 0, .int .u8 0, .int .u8 0, .int .u8 0, .int .u8 0] 34)).trans c9 (fun j hj h => by omega); replace hC1 := hC1.trans hD (fun j hj h => h); replace B2 := rangeAt.keep B2 hD (fun h => h); replace R6 := R6.keep hD (fun h => h); clear c9)
        | (refine wpList_load_want ?_ 34 (.tmp 15) rfl w6.heap.size 0 rfl hx2.toList _ B9 Try.underlying34 rfl hsz36 ?_; (first | rfl | (simp [Region.wanted, yielded]; done)))
        | (refine wpList_load_want ?_ 34 (.tmp 5) rfl w.heap.size 0 rfl hv2.toList _ B2 Try.underlying34 rfl hsz34 ?_; (first | rfl | (simp [Region.wanted, yielded]; done))))
      refine (rnumber_any w4.heap.size _ 8 w9 R6 (by omega)).mono ?_
      rw [F.out.2.1]
      rintro e w10 ⟨rfl, R10, c10⟩
      replace hC1 := hC1.trans c10 (fun j hj h => by omega)
      go_wp2
      go_ret
      exact ⟨rfl, hC1⟩
    · subst hxh
      simp only [beq_self_eq_true] at heq
      go_wp2_with (first
        | (refine wpList_store_agg rfl 34 (.tmp 15) (.tmp 54) rfl w6.heap.size 0 hx2 rfl rfl hth hsz35 hagg ?_; intro w9 B9 _ _ c9; have hD := ((Chgd.refl (fun _ => False) w6).alloc (.cells #[.int .u8 0, .int .u8 0, .int .u8 0, .int .u8 0, .int .u8 0, .int .u8 0, .int .u8 0, .int .u8 0, .int .u8 0, .int .u8 0, .int .u8 0, .int .u8 0, .int .u8 0, .int .u8 0, .int .u8 0, .int .u8 0, .int .u8 0, .int .u8 0, .int .u8 0, .int .u8 0, .int .u8 0, .int .u8 0, .int .u8 0, .int .u8 0, .int .u8 0, .int .u8 0, .int .u8 0, .int .u8 0, .int .u8 0, .int .u8 0, .int .u8 0, .int .u8 0] 34)).trans c9 (fun j hj h => by omega); replace hC1 := hC1.trans hD (fun j hj h => h); replace B2 := rangeAt.keep B2 hD (fun h => h); replace R6 := R6.keep hD (fun h => h); clear c9)
        | (refine wpList_load_want ?_ 34 (.tmp 15) rfl w6.heap.size 0 rfl hx2.toList _ B9 Try.underlying34 rfl hsz36 ?_; (first | rfl | (simp [Region.wanted, yielded]; done)))
        | (refine wpList_load_want ?_ 34 (.tmp 5) rfl w.heap.size 0 rfl hv2.toList _ B2 Try.underlying34 rfl hsz34 ?_; (first | rfl | (simp [Region.wanted, yielded]; done))))
      refine (rnumber_any w4.heap.size _ 8 w9 R6 (by omega)).mono ?_
      rw [F.out.2.1]
      rintro e w10 ⟨rfl, R10, c10⟩
      replace hC1 := hC1.trans c10 (fun j hj h => by omega)
      go_wp2_with fail
      refine (rtext_any w4.heap.size _ w10 R10 (by omega)).mono ?_
      rw [F.out.2.2.1]
      rintro e w11 ⟨rfl, R11, c11⟩
      replace hC1 := hC1.trans c11 (fun j hj h => by omega)
      go_wp2
      go_ret
      exact ⟨rfl, hC1⟩
    · subst hxh
      simp only [beq_self_eq_true] at heq
      go_wp2_with (first
        | (refine wpList_store_agg rfl 34 (.tmp 15) (.tmp 54) rfl w6.heap.size 0 hx2 rfl rfl hth hsz35 hagg ?_; intro w9 B9 _ _ c9; have hD := ((Chgd.refl (fun _ => False) w6).alloc (.cells #[.int .u8 0, .int .u8 0, .int .u8 0, .int .u8 0, .int .u8 0, .int .u8 0, .int .u8 0, .int .u8 0, .int .u8 0, .int .u8 0, .int .u8 0, .int .u8 0, .int .u8 0, .int .u8 0, .int .u8 0, .int .u8 0, .int .u8 0, .int .u8 0, .int .u8 0, .int .u8 0, .int .u8 0, .int .u8 0, .int .u8 0, .int .u8 0, .int .u8 0, .int .u8 0, .int .u8 0, .int .u8 0, .int .u8 0, .int .u8 0, .int .u8 0, .int .u8 0] 34)).trans c9 (fun j hj h => by omega); replace hC1 := hC1.trans hD (fun j hj h => h); replace B2 := rangeAt.keep B2 hD (fun h => h); replace R6 := R6.keep hD (fun h => h); clear c9)
        | (refine wpList_load_want ?_ 34 (.tmp 15) rfl w6.heap.size 0 rfl hx2.toList _ B9 Try.underlying34 rfl hsz36 ?_; (first | rfl | (simp [Region.wanted, yielded]; done)))
        | (refine wpList_load_want ?_ 34 (.tmp 5) rfl w.heap.size 0 rfl hv2.toList _ B2 Try.underlying34 rfl hsz34 ?_; (first | rfl | (simp [Region.wanted, yielded]; done))))
      refine (rnumber_any w4.heap.size _ 8 w9 R6 (by omega)).mono ?_
      rw [F.out.2.1]
      rintro e w10 ⟨rfl, R10, c10⟩
      replace hC1 := hC1.trans c10 (fun j hj h => by omega)
      go_wp2_with fail
      refine (rtext_any w4.heap.size _ w10 R10 (by omega)).mono ?_
      rw [F.out.2.2.1]
      rintro e w11 ⟨rfl, R11, c11⟩
      replace hC1 := hC1.trans c11 (fun j hj h => by omega)
      go_wp2
      go_ret
      exact ⟨rfl, hC1⟩
end Go.Proofs.Ytkgmjphdocmodaa.Octet
