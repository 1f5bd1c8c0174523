/- OctetBack's walk. -/
import Derived.Test.YtkgmjphdocmodaaOctetL
namespace Go.Proofs.Ytkgmjphdocmodaa.Octet
open Go.RowKit Go.Proofs.Ytkgmjphdocmodaa.Mem

theorem val_cons (c : UInt8) (l : List UInt8) : val (c :: l) = c.toNat * 256 ^ l.length + val l := by
  have all : ∀ (l : List UInt8) (a : Nat), l.foldl (fun a c => a * 256 + c.toNat) a = a * 256 ^ l.length + val l := by
    intro l
    induction l with
    | nil => intro a; simp [val]
    | cons d l ih =>
      intro a
      have e := ih d.toNat
      simp only [val, List.foldl_cons, List.length_cons, Nat.zero_mul, Nat.zero_add] at ih e ⊢
      rw [ih, e, Nat.add_mul, Nat.pow_succ, Nat.mul_assoc, Nat.mul_comm 256, ← Nat.add_assoc]
  have := all l c.toNat
  simpa [val] using this
theorem val_be (k : Nat) : ∀ n, n < 256 ^ k → val (be k n) = n := by
  induction k with
  | zero => intro n hn; simp at hn; subst hn; rfl
  | succ k ih =>
    intro n hn
    have hp : 0 < 256 ^ k := Nat.pow_pos (by decide)
    have hd : n / 256 ^ k < 256 := Nat.div_lt_of_lt_mul (by rw [Nat.pow_succ] at hn; exact hn)
    have hi := ih (n % 256 ^ k) (Nat.mod_lt _ hp)
    rw [be_mod] at hi
    rw [be_succ, val_cons, be_length, hi]
    have e : (UInt8.ofNat (n / 256 ^ k)).toNat = n / 256 ^ k := by simp; omega
    rw [e, Nat.mul_comm]
    exact Nat.div_add_mod n (256 ^ k)
theorem numOf_be (k n : Nat) (t : List UInt8) (h1 : 1 ≤ k) (h8 : k ≤ 8) (hn : n < 256 ^ k) : numOf k (be k n ++ t) = (n, 0, t) := by
  have hl := be_length k n
  unfold numOf
  rw [if_neg (by omega), if_neg (by rw [List.length_append, Int.toNat_natCast]; omega), Int.toNat_natCast]
  rw [List.take_append_of_le_length (by omega), List.take_of_length_le (by omega), val_be k n hn]
  rw [List.drop_append_of_le_length (by omega), List.drop_of_length_le (by omega)]
  rfl
theorem textOf_text (s t : List UInt8) (h : s.length ≤ 64) : textOf (UInt8.ofNat s.length :: s ++ t) = (s, 0, t) := by
  have e : (UInt8.ofNat s.length).toNat = s.length := by simp; omega
  rw [List.cons_append, textOf_cons, e, if_neg (by omega), if_neg (by simp)]
  simp
theorem hashOf_hash (h t : List UInt8) (hh : h.length = 32) : hashOf (h ++ t) = (h, 0, t) := by
  unfold hashOf
  rw [if_neg (by simp; omega), List.take_append_of_le_length (by omega), List.take_of_length_le (by omega), List.drop_append_of_le_length (by omega), List.drop_of_length_le (by omega)]
  rfl
theorem wide_eq (k : Nat) (hk : k ≤ 7) : IntKind.u64.wrap (2 ^ (8 * k)) = ((256 ^ k : Nat) : Int) := by
  have h7 : k = 0 ∨ k = 1 ∨ k = 2 ∨ k = 3 ∨ k = 4 ∨ k = 5 ∨ k = 6 ∨ k = 7 := by omega
  rcases h7 with rfl | rfl | rfl | rfl | rfl | rfl | rfl | rfl <;> decide

set_option maxHeartbeats 1000000 in
theorem back_law (n v : Nat) (h s : List UInt8) (w : World) (hn : n < 18446744073709551616) (hv : v ≤ 255) (hh : h.length = 32) (hs : s.length ≤ 140737488351232) :
    Calls Try.prog 8 #[.int .u64 n, .int .u8 v, hashV h, .string (bstr s)] w fun r w' => r = .returned (.bool true) ∧ OnlyNew w w' := by
  have hsz := bstr_size s
  unfold hashV
  by_cases h64 : 64 < s.length
  · obtain ⟨b, hb⟩ : ∃ b, b = bstr s := ⟨_, rfl⟩
    rw [← hb] at hsz ⊢
    have hb1 : 64 < b.size := by omega
    obtain ⟨hv2, hve⟩ : ∃ hv2, hv2 = (cellsOf h).toArray := ⟨_, rfl⟩
    rw [← hve]
    clear hve hsz h64 hb
    by_cases h8 : v % 8 = 7
    · go_enter Try.func8, Try.ntmps8
      go_wp2_with (go_at_call 10; refine (shown_any _).mono ?_; rintro e w1 ⟨rfl, c1⟩)
      go_ret
      exact ⟨rfl, ((((Chgd.refl _ w).alloc _).alloc _)).trans c1 (fun _ _ h => h)⟩
    · have hwd := wide_eq (1 + v % 8) (by omega)
      have hpos : ¬ ((256 ^ (1 + v % 8) : Nat) : Int) = 0 := by have := Nat.pow_pos (n := 1 + v % 8) (show 0 < 256 by decide); omega
      go_enter Try.func8, Try.ntmps8
      go_wp2_with (go_at_call 10; refine (shown_any _).mono ?_; rintro e w1 ⟨rfl, c1⟩)
      go_ret
      exact ⟨rfl, ((((Chgd.refl _ w).alloc _).alloc _)).trans c1 (fun _ _ h => h)⟩
  · have h64' : s.length ≤ 64 := by omega
    obtain ⟨b, hb⟩ : ∃ b, b = bstr s := ⟨_, rfl⟩
    obtain ⟨m, hm⟩ : ∃ m, m = n % 256 ^ (1 + v % 8) := ⟨_, rfl⟩
    have hm1 : m < 256 ^ (1 + v % 8) := by rw [hm]; exact Nat.mod_lt _ (Nat.pow_pos (by decide))
    have hm64 : m < 18446744073709551616 := by rw [hm]; exact Nat.lt_of_le_of_lt (Nat.mod_le _ _) hn
    have X1 : numW m (1 + (v : Int) % 8) = (be (1 + v % 8) m, 0) := by
      unfold numW
      rw [if_pos (by
        refine ⟨by omega, by omega, ?_⟩
        rw [show (1 + (v : Int) % 8).toNat = 1 + v % 8 by omega]; exact hm1), show (1 + (v : Int) % 8).toNat = 1 + v % 8 by omega]
    have T1 : textW s = (UInt8.ofNat s.length :: s, 0) := by unfold textW; rw [if_pos h64']
    have R1 : numOf (1 + (v : Int) % 8) (be (1 + v % 8) m ++ (UInt8.ofNat s.length :: s) ++ h) = (m, 0, UInt8.ofNat s.length :: s ++ h) := by
      rw [List.append_assoc]
      have := numOf_be (1 + v % 8) m (UInt8.ofNat s.length :: s ++ h) (by omega) (by omega) hm1
      rw [show ((1 + v % 8 : Nat) : Int) = 1 + (v : Int) % 8 by omega] at this
      exact this
    have R2 := textOf_text s h h64'
    have R3 := hashOf_hash h [] hh
    rw [List.append_nil] at R3
    have E1 := congrArg bstr (List.append_nil (be (1 + v % 8) m ++ (UInt8.ofNat s.length :: s) ++ h))
    have HL := show (be (1 + v % 8) m ++ (UInt8.ofNat s.length :: s) ++ h).length = 1 + v % 8 + 1 + s.length + 32 by simp [be_length, hh]; omega
    have l1 : (be (1 + v % 8) m).length ≤ 8 := by rw [be_length]; omega
    have l2 : (UInt8.ofNat s.length :: s).length ≤ 65 := by simp; omega
    obtain ⟨L1, e1⟩ : ∃ L, L = be (1 + v % 8) m := ⟨_, rfl⟩
    obtain ⟨T, e2⟩ : ∃ L, L = UInt8.ofNat s.length :: s := ⟨_, rfl⟩
    rw [← e1] at X1 R1 HL l1
    rw [← e2] at T1 R1 R2 HL l2
    obtain ⟨L3, e3⟩ : ∃ L, L = L1 ++ T := ⟨_, rfl⟩
    have l3 : L3.length ≤ 73 := by rw [e3, List.length_append]; omega
    obtain ⟨L4, e4⟩ : ∃ L, L = L3 ++ h := ⟨_, rfl⟩
    obtain ⟨L5, e5⟩ : ∃ L, L = T ++ h := ⟨_, rfl⟩
    have l5 : L5.length ≤ 97 := by rw [e5, List.length_append]; omega
    rw [← e3, ← e4] at R1 HL
    rw [← e5] at R1 R2
    have l4 : L4.length ≤ 105 := by omega
    have HH := Lib.hid (⟨X1, T1, R1, R2, R3, hb⟩ : _ ∧ _ ∧ _ ∧ _ ∧ _ ∧ _)
    have HE := Lib.hid (⟨e3, e4, HL⟩ : _ ∧ _ ∧ _)
    clear e1 e2 e3 e4 e5 HL
    have hb1 : b.size ≤ 64 := by rw [hb]; omega
    have hbs := Lib.hid (show b.size = s.length by rw [hb]; exact hsz)
    have hh' := Lib.hid hh
    rw [← hb]
    clear hb X1 T1 R1 R2 R3 E1 hsz h64 h64' hh hs
    obtain ⟨hv2, hve⟩ : ∃ hv2, hv2 = (cellsOf h).toArray := ⟨_, rfl⟩
    rw [← hve]
    have hve' := Lib.hid hve
    clear hve
    by_cases h8 : v % 8 = 7
    all_goals
      first
        | (have hnm : m = n := by rw [hm, h8]; exact Nat.mod_eq_of_lt (by omega)
           subst hnm)
        | (have hwd := wide_eq (1 + v % 8) (by omega)
           have hpos : ¬ ((256 ^ (1 + v % 8) : Nat) : Int) = 0 := by have := Nat.pow_pos (n := 1 + v % 8) (show 0 < 256 by decide); omega
           have hnm : (n : Int) % 256 ^ (1 + v % 8) = m := by rw [hm]; simp)
      clear hm
      go_enter Try.func8, Try.ntmps8
      go_wp2_with fail
      refine (shown_any _).mono ?_
      rintro e w1 ⟨rfl, c1⟩
      have N1 := (NW.fresh (w.alloc (.cells hv2 34)) 26 0 0).keep c1 (fun h => h) (fun _ _ _ h => h)
      have hC := (((Chgd.refl (fun _ => False) w).alloc (.cells hv2 34)).alloc (.cells #[.slice none 0 0] 26)).trans c1 (fun _ _ h => h)
      have B1 := rangeAt.keep (rangeAt.keep (range_new w hv2 34) ((Chgd.refl (fun _ => False) _).alloc (.cells #[.slice none 0 0] 26)) (fun h => h)) c1 (fun h => h)
      have z1 : w.heap.size + 2 ≤ w1.heap.size := by simpa using c1.size
      simp only [World.size_alloc] at N1
      clear c1
      go_wp2_with fail
      refine (number_any w1.heap.size w1.heap.size _ [] m _ _ (N1.empty _) (by omega) (by omega) (by simp) hm64).mono ?_
      rintro e w2 ⟨rfl, N2, c2⟩
      rw [HH.out.1] at N2 ⊢
      simp only [List.nil_append] at N2
      replace hC := hC.trans c2 (fun j hj h => by unfold WS at h; omega)
      replace B1 := rangeAt.keep B1 c2 (by unfold WS; omega)
      have z2 := c2.size
      clear c2 N1
      go_wp2_with fail
      have TT := text_any _ _ _ _ s w2 N2 (by omega) (Nat.le_refl _) (by omega) (by have := hbs.out; omega)
      rw [HH.out.2.1, ← HH.out.2.2.2.2.2] at TT
      rw [← HE.out.1] at TT
      refine TT.mono ?_
      rintro e w3 ⟨rfl, N3, c3⟩
      clear TT
      replace hC := hC.trans c3 (fun j hj h => by unfold WS at h; omega)
      replace B1 := rangeAt.keep B1 c3 (by unfold WS; omega)
      have z3 := c3.size
      clear c3 N2
      have hsz34 : (Try.prog.info? 34).map (·.size) = some hv2.toList.length := by rw [hve'.out, List.toList_toArray, cellsOf_length, hh'.out]; exact size_hash
      go_wp2_with (refine wpList_load_mid rfl 34 (.tmp 6) rfl w.heap.size 0 rfl hv2.toList _ B1 Try.underlying34 rfl hsz34 ?_)
      have TT := whash_any _ _ _ _ h w3 N3 (by omega) (Nat.le_refl _) (by omega) hh'.out
      unfold hashV at TT
      rw [← hve'.out] at TT
      rw [← HE.out.2.1] at TT
      refine TT.mono ?_
      rintro e w4 ⟨rfl, N4, c4⟩
      clear TT
      replace hC := hC.trans c4 (fun j hj h => by unfold WS at h; omega)
      replace B1 := rangeAt.keep B1 c4 (by unfold WS; omega)
      have z4 := c4.size
      clear c4 N3
      go_wp2_with fail
      refine (wbytes_any _ _ _ _ w4 N4).mono ?_
      rintro e w5 ⟨rfl, rfl⟩
      go_wp2_with fail
      refine (rnew_any _ w4).mono ?_
      rintro e w5 ⟨rfl, R5, c5, z5⟩
      replace hC := hC.trans c5 (fun j hj h => h)
      replace B1 := rangeAt.keep B1 c5 (fun h => h)
      replace N4 := N4.keep c5 (fun h => h) (fun _ _ _ h => h)
      clear c5
      go_wp2_with fail
      refine (rnumber_any w4.heap.size _ _ w5 R5 (by omega)).mono ?_
      rw [HH.out.2.2.1]
      rintro e w6 ⟨rfl, R6, c6⟩
      replace hC := hC.trans c6 (fun j hj h => by omega)
      replace B1 := rangeAt.keep B1 c6 (by omega)
      replace N4 := N4.keep c6 (by have := N4.lt; omega) (fun k _ _ h => by omega)
      clear c6 R5
      go_wp2_with fail
      refine (rtext_any w4.heap.size _ w6 R6 (by omega)).mono ?_
      rw [HH.out.2.2.2.1, ← HH.out.2.2.2.2.2]
      rintro e w7 ⟨rfl, R7, c7⟩
      replace hC := hC.trans c7 (fun j hj h => by omega)
      replace B1 := rangeAt.keep B1 c7 (by omega)
      replace N4 := N4.keep c7 (by have := N4.lt; omega) (fun k _ _ h => by omega)
      clear c7 R6
      go_wp2_with fail
      refine (rhash_any w4.heap.size _ w7 R7 (by have := hh'.out; omega)).mono ?_
      rw [HH.out.2.2.2.2.1, ← hve'.out]
      rintro e w8 ⟨rfl, R8, c8⟩
      replace hC := hC.trans c8 (fun j hj h => by omega)
      replace B1 := rangeAt.keep B1 c8 (by omega)
      replace N4 := N4.keep c8 (by have := N4.lt; omega) (fun k _ _ h => by omega)
      clear c8 R7
      have hagg : hv2.all (·.oneCell') = true := by rw [hve'.out]; simpa using cellsOf_one h
      have hth : (w8.alloc (.cells #[.int .u8 0, .int .u8 0, .int .u8 0, .int .u8 0, .int .u8 0, .int .u8 0, .int .u8 0, .int .u8 0, .int .u8 0, .int .u8 0, .int .u8 0, .int .u8 0, .int .u8 0, .int .u8 0, .int .u8 0, .int .u8 0, .int .u8 0, .int .u8 0, .int .u8 0, .int .u8 0, .int .u8 0, .int .u8 0, .int .u8 0, .int .u8 0, .int .u8 0, .int .u8 0, .int .u8 0, .int .u8 0, .int .u8 0, .int .u8 0, .int .u8 0, .int .u8 0] 34)).there w8.heap.size 0 hv2.size := by
        have := there_new w8 #[.int .u8 0, .int .u8 0, .int .u8 0, .int .u8 0, .int .u8 0, .int .u8 0, .int .u8 0, .int .u8 0, .int .u8 0, .int .u8 0, .int .u8 0, .int .u8 0, .int .u8 0, .int .u8 0, .int .u8 0, .int .u8 0, .int .u8 0, .int .u8 0, .int .u8 0, .int .u8 0, .int .u8 0, .int .u8 0, .int .u8 0, .int .u8 0, .int .u8 0, .int .u8 0, .int .u8 0, .int .u8 0, .int .u8 0, .int .u8 0, .int .u8 0, .int .u8 0] 34
        rw [show hv2.size = 32 by rw [hve'.out]; simp [cellsOf_length, hh'.out]]
        exact this
      have hsz35 : (Try.prog.info? 34).map (·.size) = some hv2.size := by rw [← Array.length_toList]; exact hsz34
      have heq : ∀ wx, (Op.equalIn 10000 34 (.agg hv2) (.agg hv2)).run Try.prog wx = .ok true wx := fun wx => by
        rw [hve'.out, eq_hash wx h h hh'.out hh'.out, beq_self_eq_true]
      have hbe : (b.toList == b.toList) = true := beq_self_eq_true _
      have hsz4 := bstr_size L4
      have hL4 := HE.out.2.2
      have hbs2 := hbs.out
      obtain ⟨b4, hb4⟩ : ∃ b4, b4 = bstr L4 := ⟨_, rfl⟩
      rw [← hb4] at hsz4
      have HB4 := Lib.hid hb4
      clear hb4
      have hb5 : (b4.size : Int) = 1 + (v : Int) % 8 + 1 + b.size + 32 := by omega
      clear hsz4 hL4 hbs2
      go_wp2_with (first
        | (go_at_call 26; refine (end_any _ _ w9 R8).mono ?_; rintro e w10 ⟨rfl, rfl⟩; rw [if_pos rfl])
        | (go_at_call 11; refine (wbytes_any _ _ _ _ w9 N4).mono ?_; rintro e w10 ⟨rfl, rfl⟩; rw [← HB4.out])
        | (refine wpList_store_agg rfl 34 (.tmp 16) (.tmp 70) rfl w8.heap.size 0 hv2 rfl rfl hth hsz35 hagg ?_; intro w9 B9 _ _ c9; have hD := ((Chgd.refl (fun _ => False) w8).alloc (.cells #[.int .u8 0, .int .u8 0, .int .u8 0, .int .u8 0, .int .u8 0, .int .u8 0, .int .u8 0, .int .u8 0, .int .u8 0, .int .u8 0, .int .u8 0, .int .u8 0, .int .u8 0, .int .u8 0, .int .u8 0, .int .u8 0, .int .u8 0, .int .u8 0, .int .u8 0, .int .u8 0, .int .u8 0, .int .u8 0, .int .u8 0, .int .u8 0, .int .u8 0, .int .u8 0, .int .u8 0, .int .u8 0, .int .u8 0, .int .u8 0, .int .u8 0, .int .u8 0] 34)).trans c9 (fun j hj h => by omega); replace hC := hC.trans hD (fun j hj h => h); replace B1 := rangeAt.keep B1 hD (fun h => h); replace N4 := N4.keep hD (fun h => h) (fun _ _ _ h => h); replace R8 := R8.keep hD (fun h => h); clear c9)
        | (refine wpList_load_want (by first | rfl | simp [Region.wanted, yielded]) 34 (.tmp 16) rfl w8.heap.size 0 rfl hv2.toList _ B9 Try.underlying34 rfl hsz34 ?_)
        | (refine wpList_load_want (by first | rfl | simp [Region.wanted, yielded]) 34 (.tmp 6) rfl w.heap.size 0 rfl hv2.toList _ B1 Try.underlying34 rfl hsz34 ?_))
      go_ret
      exact ⟨rfl, hC⟩
end Go.Proofs.Ytkgmjphdocmodaa.Octet
