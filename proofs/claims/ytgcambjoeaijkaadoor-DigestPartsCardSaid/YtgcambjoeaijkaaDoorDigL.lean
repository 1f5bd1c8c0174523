/- Layer 2's shown, and the walk of DigestPads. -/
import Derived.Test.YtgcambjoeaijkaaDoorDigU
import Derived.Test.YtgcambjoeaijkaaDoorDigK
namespace Go.Proofs.YtgcambjoeaijkaaDoor.Dig
open Go Go.RowKit Go.Proofs.YtgcambjoeaijkaaDoor.Mem

set_option maxHeartbeats 1000000 in
theorem shown_any (w : World) (hKT : KTab w) : Calls Tryd.prog 8 #[] w fun r w' => r = .returned (.bool true) ∧ OnlyNew w w' := by
  obtain ⟨S, hS⟩ : ∃ S, S = sha [97, 98, 99] := ⟨_, rfl⟩
  have hl := Lib.hid (show (cellsOf S).length = 32 by rw [hS, cellsOf_length, sha_length])
  have h0 : (cellsOf S)[0]? = some (.int .u8 186) := by rw [hS]; kernel_rfl
  have h1 : (cellsOf S)[1]? = some (.int .u8 120) := by rw [hS]; kernel_rfl
  have h2 : (cellsOf S)[2]? = some (.int .u8 22) := by rw [hS]; kernel_rfl
  have h3 : (cellsOf S)[3]? = some (.int .u8 191) := by rw [hS]; kernel_rfl
  have h31 : (cellsOf S)[31]? = some (.int .u8 173) := by rw [hS]; kernel_rfl
  obtain ⟨sv, hsv⟩ : ∃ sv, sv = (cellsOf S).toArray := ⟨_, rfl⟩
  have HS := Lib.hid (⟨hS, hsv, h0, h1, h2, h3, h31⟩ : _ ∧ _ ∧ _ ∧ _ ∧ _ ∧ _ ∧ _)
  have HK := Lib.hid hKT
  clear hS hsv h0 h1 h2 h3 h31 hKT
  go_enter Tryd.func8, Tryd.ntmps8
  go_wp2_with (first
    | (go_at_call 9; refine (sha_any [97, 98, 99] (by decide) _ HK.out).mono ?_; rintro e w1 ⟨rfl, c1⟩; rw [← HS.out.1, ← HS.out.2.1])
    | (refine wpList_storeRow rfl 24 (.tmp 1) (.tmp 2) rfl w1.heap.size 0 _ (cellsOf S) rfl (by show Value.agg sv = _; rw [HS.out.2.1]) (Row.new _ _ _) 32 size32 rfl hl.out (cellsOf_one _) ?_; intro w2 B2 _ _ c2; have C2 : OnlyNew w w2 := (c1.alloc _).trans c2 (fun j hj e => by have := c1.size; omega); have k0 := B2.cell0 HS.out.2.2.1; have k1 := B2.cell0 HS.out.2.2.2.1; have k2 := B2.cell0 HS.out.2.2.2.2.1; have k3 := B2.cell0 HS.out.2.2.2.2.2.1; have k31 := B2.cell0 HS.out.2.2.2.2.2.2; clear B2 c2 c1))
  go_ret
  exact ⟨rfl, C2⟩

set_option maxHeartbeats 1000000 in
theorem pads_law (l : List UInt8) (hl : l.length ≤ 140737488351232) (w : World) (hKT : KTab w) :
    Calls Tryd.prog 6 #[.string (bstr l)] w fun r w' => r = .returned (.bool true) ∧ OnlyNew w w' := by
  have hsz := bstr_size l
  obtain ⟨b, hb⟩ : ∃ b, b = bstr l := ⟨_, rfl⟩
  rw [← hb] at hsz ⊢
  have HK := Lib.hid hKT
  clear hKT
  by_cases h600 : 600 < l.length
  · have hb1 : 600 < b.size := by omega
    have hb2 : b.size ≤ 140737488351232 := by omega
    clear hsz hb hl h600
    go_enter Tryd.func6, Tryd.ntmps6
    go_wp2_with (go_at_call 8; refine (shown_any _ HK.out).mono ?_; rintro e w1 ⟨rfl, c1⟩)
    go_ret
    exact ⟨rfl, c1⟩
  · have hb1 : b.size ≤ 600 := by omega
    obtain ⟨P, hP⟩ : ∃ P, P = bstr (pad l) := ⟨_, rfl⟩
    have hPs : P.size = l.length + 1 + zeros l.length + 8 := by rw [hP, bstr_size, pad_length]
    have hz := zeros_lt l.length
    have hh := zeros_hit l.length
    have hm64 : ((P.size : Int) % 64 == 0) = true := by simp; omega
    have hm1 : b.size + 9 ≤ P.size := by omega
    have hm2 : P.size < b.size + 73 := by omega
    have hx : P.extract 0 b.size = b := by
      rw [hP, hsz, bstr_take, hb]
      congr 1
      simp [pad]
    have hi1 : P[b.size]? = some 128 := by
      rw [hP, hsz]
      show (pad l).toArray[l.length]? = _
      simp [pad]
    have hi2 : P[P.size - 1]? = some (UInt8.ofNat (b.size * 8)) := by
      rw [hPs, hP, hsz]
      show (pad l).toArray[l.length + 1 + zeros l.length + 8 - 1]? = _
      rw [List.getElem?_toArray, pad, List.getElem?_append_right (by simp; omega)]
      have e : l.length + 1 + zeros l.length + 8 - 1 - (l ++ 128 :: List.replicate (zeros l.length) 0).length = 7 := by simp; omega
      rw [e]
      simp [be8, byteAt]
    have hbe : (b.toList == b.toList) = true := beq_self_eq_true _
    have HP := Lib.hid hP
    have HB := Lib.hid hb
    have hlt1 : b.size < P.size := by omega
    have hlt2 : P.size - 1 < P.size := by omega
    have hj1 : ((P[b.size]'hlt1).toNat : Int) = 128 := by
      rw [getElem?_pos P b.size hlt1] at hi1
      rw [Option.some.inj hi1]; rfl
    have hj2 : ((P[P.size - 1]'hlt2).toNat : Int) = (b.size : Int) * 8 % 256 := by
      rw [getElem?_pos P (P.size - 1) hlt2] at hi2
      rw [Option.some.inj hi2]; simp
    have HX := Lib.hid (⟨hx, hj1, hj2⟩ : _ ∧ _ ∧ _)
    clear hj1 hj2
    have hl2 := Lib.hid (show l.length ≤ 600 by omega)
    clear hP hb hsz hPs hz hh h600 hl hx hi1 hi2
    go_enter Tryd.func6, Tryd.ntmps6
    go_wp2_with (first
      | (go_at_call 8; refine (shown_any _ HK.out).mono ?_; rintro e w1 ⟨rfl, c1⟩)
      | (go_at_call 11; rw [HB.out]; refine (pad_any l (by have := hl2.out; omega) _).mono ?_; rintro e w2 ⟨rfl, c2⟩; rw [← HB.out, ← HP.out]; have hx := HX.out.1; have hi1 := HX.out.2.1; have hi2 := HX.out.2.2))
    go_ret
    exact ⟨rfl, c1.trans c2 (fun _ _ h => h)⟩
end Go.Proofs.YtgcambjoeaijkaaDoor.Dig
