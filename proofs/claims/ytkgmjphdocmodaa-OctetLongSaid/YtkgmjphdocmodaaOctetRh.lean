/- Reader.Hash, Reader.Text, New, and Number where too few bytes are left. -/
import Derived.Test.YtkgmjphdocmodaaOctetRn
import Derived.Test.YtkgmjphdocmodaaArr
import Derived.Defers
namespace Go.Proofs.Ytkgmjphdocmodaa.Octet
open Go.RowKit Go.Proofs.Ytkgmjphdocmodaa.Mem

theorem size_hash : (Try.prog.info? 34).map (·.size) = some 32 := by kernel_rfl
theorem size_byte : (Try.prog.info? 5).map (·.size) = some 1 := by kernel_rfl
def zeros32 : List UInt8 := List.replicate 32 0
theorem zeros_cells : (cellsOf zeros32).toArray = #[.int .u8 0, .int .u8 0, .int .u8 0, .int .u8 0, .int .u8 0, .int .u8 0, .int .u8 0, .int .u8 0, .int .u8 0, .int .u8 0, .int .u8 0, .int .u8 0, .int .u8 0, .int .u8 0, .int .u8 0, .int .u8 0,
    .int .u8 0, .int .u8 0, .int .u8 0, .int .u8 0, .int .u8 0, .int .u8 0, .int .u8 0, .int .u8 0, .int .u8 0, .int .u8 0, .int .u8 0, .int .u8 0, .int .u8 0, .int .u8 0, .int .u8 0, .int .u8 0] := rfl

theorem new_any (s : ByteArray) (w : World) :
    Calls Try.prog 17 #[.string s] w fun r w' => r = .returned (.pointer (some ⟨w.heap.size, 0, none⟩)) ∧ w' = w.alloc (.cells #[.string s] 62) := by
  go_enter Try.func17, Try.ntmps17
  go_wp2
  go_ret
  exact ⟨rfl, rfl⟩

set_option maxHeartbeats 1000000 in
theorem rnumber_short (p : Nat) (s : List UInt8) (k : Nat) (w : World) (h : Rd w p s) (hk1 : 1 ≤ k) (hk8 : k ≤ 8) (hk : s.length < k) :
    Calls Try.prog 20 #[.pointer (some ⟨p, 0, none⟩), .int .i64 k] w fun r w' => r = .returned (.tuple #[.int .u64 0, .int .i64 10]) ∧ OnlyNew w w' := by
  have hcv := fun (wx : World) (b : ByteArray) => Lib.run_convert_string_bytes (P := Try.prog) wx 9 24 5 b Try.underlying9 Try.underlying24 Try.underlying5
  go_enter Try.func20, Try.ntmps20
  go_wp2_with (go_at_call 30; refine (take_short p s k _ h (by omega)).mono ?_; rintro e w1 ⟨rfl, rfl⟩)
  refine wp_loop_rounds 1 ?_
  rw [rounds_succ]
  go_wp2
  go_ret2
  exact ⟨rfl, (Chgd.refl _ _).bytes _ _⟩

set_option maxHeartbeats 1000000 in
theorem rhash_ok (p : Nat) (s : List UInt8) (w : World) (h : Rd w p s) (hs : s.length ≤ 1000000000000) (hk : 32 ≤ s.length) :
    Calls Try.prog 22 #[.pointer (some ⟨p, 0, none⟩)] w fun r w' => r = .returned (.tuple #[.agg (cellsOf (s.take 32)).toArray, .int .i64 0]) ∧ Rd w' p (s.drop 32) ∧ Only p w w' := by
  have hlt := h.lt
  have hne : ¬ w.heap.size = p := by omega
  obtain ⟨T, hT⟩ : ∃ T, T = s.take 32 := ⟨_, rfl⟩
  have hTl : T.length = 32 := by rw [hT, List.length_take]; omega
  have hsz := Lib.hid (show (bstr T).size = 32 by rw [bstr_size, hTl])
  have hcl := Lib.hid (show (cellsOf T).length = 32 by rw [cellsOf_length, hTl])
  rw [← hT]
  have HT := Lib.hid hT
  clear hT hTl
  go_enter Try.func22, Try.ntmps22
  go_wp2_with (first
    | (go_at_call 30; refine (take_ok p s 32 _ (h.keep ((Chgd.refl (fun _ => False) _).alloc _) (fun h => h)) hs hk).mono ?_; rintro e w1 ⟨rfl, hR1, hO1⟩; rw [← HT.out]; have hth : w1.there w.heap.size 0 32 := there.keep (there_new w _ _) hO1 hne; replace hO1 := ((Chgd.refl (fun k => k = p) w).alloc _).trans hO1 (fun _ _ h => h))
    | (refine wpList_copy_str rfl (.tmp 10) (.tmp 11) 24 9 rfl 5 Try.underlying24 size_byte w.heap.size 0 32 32 rfl (bstr T) rfl (by have := hsz.out; omega) (by rw [hsz.out]; exact hth) ?_; intro w2 r2 k2 _ c2; replace r2 : w2.rangeAt w.heap.size 0 (cellsOf T) := r2; have hth2 := k2 _ _ hth; clear k2)
    | (refine wpList_load_mid rfl 34 (.tmp 2) rfl w.heap.size 0 rfl (cellsOf T) _ r2 Try.underlying34 rfl (by rw [hcl.out]; exact size_hash) ?_)
    | (refine wpList_store_agg rfl 34 (.tmp 2) (.tmp 13) rfl w.heap.size 0 (cellsOf T).toArray rfl rfl (by simpa [hcl.out] using hth2) (by simpa [hcl.out] using size_hash) (by simpa using cellsOf_one T) ?_; intro w3 r3 _ _ c3))
  have hR3 := (hR1.keep c2 (by omega)).keep c3 (by omega)
  have hO3 : Only p w w3 := (hO1.trans c2 (fun j hj e => by omega)).trans c3 (fun j hj e => by omega)
  refine bodyPost_ret (v := .tuple #[.agg (cellsOf T).toArray, .int .i64 0]) ?_ rfl ⟨rfl, hR3, hO3⟩
  exact results_cell_mid_tmp (p := 2) (u := 3) (ty := 34) rfl _ w3 w.heap.size 0 (cellsOf T) _ rfl (by simpa using r3) Try.underlying34 rfl (by rw [hcl.out]; exact size_hash)

set_option maxHeartbeats 1000000 in
theorem rhash_short (p : Nat) (s : List UInt8) (w : World) (h : Rd w p s) (hk : s.length < 32) :
    Calls Try.prog 22 #[.pointer (some ⟨p, 0, none⟩)] w fun r w' => r = .returned (.tuple #[.agg (cellsOf zeros32).toArray, .int .i64 10]) ∧ OnlyNew w w' := by
  have hlt := h.lt
  have hne : ¬ w.heap.size = p := by omega
  have hz := Lib.hid zeros_cells
  have hcl := Lib.hid (show (cellsOf zeros32).length = 32 from rfl)
  obtain ⟨Z, hZ⟩ : ∃ Z, Z = zeros32 := ⟨_, rfl⟩
  rw [← hZ] at hz hcl ⊢
  clear hZ
  go_enter Try.func22, Try.ntmps22
  go_wp2_with (first
    | (go_at_call 30; refine (take_short p s 32 _ (h.keep ((Chgd.refl (fun _ => False) _).alloc _) (fun h => h)) (by omega)).mono ?_; rintro e w1 ⟨rfl, hw1⟩; have hth : w1.there w.heap.size 0 32 := (by rw [← hw1]; exact there_new w _ _); have hrg : w1.rangeAt w.heap.size 0 (cellsOf Z) := (by rw [← hw1, ← hz.out]; exact range_new w (cellsOf Z).toArray 34); have hO1 : OnlyNew w w1 := (by rw [← hw1]; exact (Chgd.refl _ _).alloc _); clear hw1)
    | (refine wpList_copy_str rfl (.tmp 10) (.tmp 11) 24 9 rfl 5 Try.underlying24 size_byte w.heap.size 0 32 32 rfl ⟨#[]⟩ rfl (by decide) (fun j hj => absurd hj (by simp [ByteArray.size])) ?_; intro w2 _ k2 o2 c2; have r2 : w2.rangeAt w.heap.size 0 (cellsOf Z) := fun j v hj => (o2 _ (.inr (by simp [ByteArray.size]))).trans (hrg j v hj); have hth2 := k2 _ _ hth; clear k2 o2)
    | (refine wpList_load_mid rfl 34 (.tmp 2) rfl w.heap.size 0 rfl (cellsOf Z) _ r2 Try.underlying34 rfl (by rw [hcl.out]; exact size_hash) ?_)
    | (refine wpList_store_agg rfl 34 (.tmp 2) (.tmp 13) rfl w.heap.size 0 (cellsOf Z).toArray rfl rfl (by simpa [hcl.out] using hth2) (by simpa [hcl.out] using size_hash) (by simpa using cellsOf_one Z) ?_; intro w3 r3 _ _ c3))
  have hO3 : OnlyNew w w3 := (hO1.trans c2 (fun j hj e => by omega)).trans c3 (fun j hj e => by omega)
  refine bodyPost_ret (v := .tuple #[.agg (cellsOf Z).toArray, .int .i64 10]) ?_ rfl ⟨rfl, hO3⟩
  exact results_cell_mid_tmp (p := 2) (u := 3) (ty := 34) rfl _ w3 w.heap.size 0 (cellsOf Z) _ rfl (by simpa using r3) Try.underlying34 rfl (by rw [hcl.out]; exact size_hash)
end Go.Proofs.Ytkgmjphdocmodaa.Octet
