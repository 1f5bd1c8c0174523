/- The walks of DigestSums, DigestFolds. -/
import Derived.Test.YtgcambjoeaijkaaDoorDigL
import Derived.Test.YtgcambjoeaijkaaDoorDigR5
import Derived.Stop.BytesEq
namespace Go.Proofs.YtgcambjoeaijkaaDoor.Dig
open Go Go.RowKit Go.Proofs.YtgcambjoeaijkaaDoor.Mem

theorem size_u8 (w : World) : (sizeOf 5).run Tryd.prog w = .ok 1 w := rfl
theorem eq_hash (w : World) (xs ys : List UInt8) (hx : xs.length = 32) (hy : ys.length = 32) :
    (Op.equalIn 10000 24 (.agg (cellsOf xs).toArray) (.agg (cellsOf ys).toArray)).run Tryd.prog w = .ok (xs == ys) w :=
  run_equalIn_bytes w 9998 24 5 32 Tryd.underlying24 Tryd.underlying5 size_u8 xs ys hx hy

set_option maxHeartbeats 1000000 in
theorem sums_law (l : List UInt8) (hl : l.length ≤ 140737488351232) (w : World) (hKT : KTab w) :
    Calls Tryd.prog 3 #[.string (bstr l)] w fun r w' => r = .returned (.bool true) ∧ OnlyNew w w' := by
  have hsz := bstr_size l
  obtain ⟨b, hb⟩ : ∃ b, b = bstr l := ⟨_, rfl⟩
  rw [← hb] at hsz ⊢
  have HK := Lib.hid hKT
  clear hKT
  by_cases h600 : 600 < l.length
  · have hb1 : 600 < b.size := by omega
    have hb2 : b.size ≤ 140737488351232 := by omega
    clear hsz hb hl h600
    go_enter Tryd.func3, Tryd.ntmps3
    go_wp2_with (go_at_call 8; refine (shown_any _ HK.out).mono ?_; rintro e w1 ⟨rfl, c1⟩)
    go_ret
    exact ⟨rfl, c1⟩
  · have hb1 : b.size ≤ 600 := by omega
    obtain ⟨sv, hsv⟩ : ∃ sv, sv = (cellsOf (sha l)).toArray := ⟨_, rfl⟩
    obtain ⟨P, hP⟩ : ∃ P, P = bstr (pad l) := ⟨_, rfl⟩
    have heq : ∀ wx, (Op.equalIn 10000 24 (.agg sv) (.agg sv)).run Tryd.prog wx = .ok true wx := fun wx => by
      rw [hsv, eq_hash wx _ _ (sha_length l) (sha_length l), beq_self_eq_true]
    have hbe : (P.toList == P.toList) = true := beq_self_eq_true _
    have H1 := Lib.hid (⟨hb, hsv, hP⟩ : _ ∧ _ ∧ _)
    have hl2 := Lib.hid (show l.length ≤ 600 by omega)
    clear hb hsv hP hsz h600 hl
    go_enter Tryd.func3, Tryd.ntmps3
    go_wp2_with (first
      | (go_at_call 8; refine (shown_any _ HK.out).mono ?_; rintro e w1 ⟨rfl, c1⟩)
      | (go_at_call 9; rw [H1.out.1]; refine (sha_any l (by have := hl2.out; omega) _ (HK.out.keep c1 (fun h => h))).mono ?_; rintro e w2 ⟨rfl, c2⟩; rw [← H1.out.1, ← H1.out.2.1])
      | (go_at_call 10; rw [H1.out.1]; refine (refsha_any l (by have := hl2.out; omega) _).mono ?_; rintro e w3 ⟨rfl, c3⟩; rw [← H1.out.1, ← H1.out.2.1])
      | (go_at_call 11; rw [H1.out.1]; refine (pad_any l (by have := hl2.out; omega) _).mono ?_; rintro e w4 ⟨rfl, c4⟩; rw [← H1.out.1, ← H1.out.2.2])
      | (go_at_call 12; rw [H1.out.1]; refine (refpad_any l (by have := hl2.out; omega) _).mono ?_; rintro e w5 ⟨rfl, c5⟩; rw [← H1.out.1, ← H1.out.2.2]))
    go_ret
    exact ⟨rfl, (((c1.trans c2 (fun _ _ h => h)).trans c3 (fun _ _ h => h)).trans c4 (fun _ _ h => h)).trans c5 (fun _ _ h => h)⟩
end Go.Proofs.YtgcambjoeaijkaaDoor.Dig
