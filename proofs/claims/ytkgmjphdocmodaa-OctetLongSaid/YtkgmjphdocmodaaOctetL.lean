/- What octet's laws want: new writers, the writer's contracts for every input, octet's anchor. -/
import Derived.Test.YtkgmjphdocmodaaOctetRs
import Derived.Test.YtkgmjphdocmodaaOctetR
import Derived.Test.YtkgmjphdocmodaaOctetW
import Derived.Stop.BytesEq
namespace Go.Proofs.Ytkgmjphdocmodaa.Octet
open Go.RowKit Go.Proofs.Ytkgmjphdocmodaa.Mem

theorem be_mod (k n : Nat) : be k (n % 256 ^ k) = be k n := by
  suffices all : ∀ k m, k ≤ m → be k (n % 256 ^ m) = be k n from all k k (Nat.le_refl _)
  intro k
  induction k with
  | zero => intro m _; rfl
  | succ k ih =>
    intro m hm
    rw [be_succ, be_succ, ih m (by omega)]
    congr 1
    apply UInt8.toNat_inj.1
    simp only [UInt8.toNat_ofNat']
    obtain ⟨q, rfl⟩ := Nat.exists_eq_add_of_le hm
    have e : 256 ^ (k + 1 + q) = 256 ^ k * (256 * 256 ^ q) := by rw [Nat.pow_add, Nat.pow_succ, Nat.mul_assoc]
    rw [e, Nat.mod_mul_right_div_self, show 2 ^ 8 = 256 from rfl, Nat.mod_mul_right_mod]

theorem val_cons (c : UInt8) (l : List UInt8) : val (c :: l) = c.toNat * 256 ^ l.length + val l := by
  have all : ∀ (l : List UInt8) (a : Nat), l.foldl (fun a c => a * 256 + c.toNat) a = a * 256 ^ l.length + val l := by
    intro l
    induction l with
    | nil => intro a; simp [val]
    | cons d l ih =>
      intro a
      have e := ih d.toNat
      simp only [val, List.foldl_cons, List.length_cons, Nat.zero_mul, Nat.zero_add] at ih e ⊢
      rw [ih, e, Nat.add_mul, Nat.pow_succ, Nat.mul_assoc, Nat.mul_comm 256, ← Nat.add_assoc]
  have := all l c.toNat
  simpa [val] using this
theorem val_be (k : Nat) : ∀ n, n < 256 ^ k → val (be k n) = n := by
  induction k with
  | zero => intro n hn; simp at hn; subst hn; rfl
  | succ k ih =>
    intro n hn
    have hp : 0 < 256 ^ k := Nat.pow_pos (by decide)
    have hd : n / 256 ^ k < 256 := Nat.div_lt_of_lt_mul (by rw [Nat.pow_succ] at hn; exact hn)
    have hi := ih (n % 256 ^ k) (Nat.mod_lt _ hp)
    rw [be_mod] at hi
    rw [be_succ, val_cons, be_length, hi]
    have e : (UInt8.ofNat (n / 256 ^ k)).toNat = n / 256 ^ k := by simp; omega
    rw [e, Nat.mul_comm]
    exact Nat.div_add_mod n (256 ^ k)
theorem numOf_be (k n : Nat) (t : List UInt8) (h1 : 1 ≤ k) (h8 : k ≤ 8) (hn : n < 256 ^ k) : numOf k (be k n ++ t) = (n, 0, t) := by
  have hl := be_length k n
  unfold numOf
  rw [if_neg (by omega), if_neg (by rw [List.length_append, Int.toNat_natCast]; omega), Int.toNat_natCast]
  rw [List.take_append_of_le_length (by omega), List.take_of_length_le (by omega), val_be k n hn]
  rw [List.drop_append_of_le_length (by omega), List.drop_of_length_le (by omega)]
  rfl
theorem textOf_text (s t : List UInt8) (h : s.length ≤ 64) : textOf (UInt8.ofNat s.length :: s ++ t) = (s, 0, t) := by
  have e : (UInt8.ofNat s.length).toNat = s.length := by simp; omega
  rw [List.cons_append, textOf_cons, e, if_neg (by omega), if_neg (by simp)]
  simp
theorem hashOf_hash (h t : List UInt8) (hh : h.length = 32) : hashOf (h ++ t) = (h, 0, t) := by
  unfold hashOf
  rw [if_neg (by simp; omega), List.take_append_of_le_length (by omega), List.take_of_length_le (by omega), List.drop_append_of_le_length (by omega), List.drop_of_length_le (by omega)]
  rfl
theorem wide_eq (k : Nat) (hk : k ≤ 7) : IntKind.u64.wrap (2 ^ (8 * k)) = ((256 ^ k : Nat) : Int) := by
  have h7 : k = 0 ∨ k = 1 ∨ k = 2 ∨ k = 3 ∨ k = 4 ∨ k = 5 ∨ k = 6 ∨ k = 7 := by omega
  rcases h7 with rfl | rfl | rfl | rfl | rfl | rfl | rfl | rfl <;> decide


theorem numOf_err (k : Int) (s : List UInt8) : (numOf k s).2.1 = 0 ∨ (numOf k s).2.2 = s := by
  unfold numOf; split
  · exact .inr rfl
  · split
    · exact .inr rfl
    · exact .inl rfl
theorem hashOf_err (s : List UInt8) : (hashOf s).2.1 = 0 ∨ (hashOf s).2.2 = s := by
  unfold hashOf; split
  · exact .inr rfl
  · exact .inl rfl
theorem textOf_err (s : List UInt8) : (textOf s).2.1 = 0 ∨ (textOf s).2.2 = s := by
  cases s with
  | nil => exact .inr rfl
  | cons c t =>
    rw [textOf_cons]; split
    · exact .inr rfl
    · split
      · exact .inr rfl
      · exact .inl rfl

/-- A writer at block p that holds l; its slice lies among the blocks lo .. hi. -/
def NW (lo hi : Nat) (w : World) (p : Nat) (l : List UInt8) : Prop := ∃ g, Wr w p 0 g l ∧ ∀ k, g = some k → lo ≤ k ∧ k < hi
theorem NW.mono {lo hi lo' hi' : Nat} {w : World} {p : Nat} {l : List UInt8} (h : NW lo hi w p l) (h1 : lo' ≤ lo) (h2 : hi ≤ hi') : NW lo' hi' w p l := by
  obtain ⟨g, hg, hk⟩ := h
  exact ⟨g, hg, fun k e => by have := hk k e; omega⟩
theorem NW.keep {S : Nat → Prop} {lo hi : Nat} {w w' : World} {p : Nat} {l : List UInt8} (h : NW lo hi w p l) (ht : Chgd S w w') (hp : ¬ S p) (hg : ∀ k, lo ≤ k → k < hi → ¬ S k) : NW lo hi w' p l := by
  obtain ⟨g, hW, hk⟩ := h
  exact ⟨g, hW.keep ht hp (fun k e => hg k (hk k e).1 (hk k e).2), hk⟩
theorem NW.empty {lo : Nat} {w : World} {p : Nat} {l : List UInt8} (h : NW lo lo w p l) (lo' : Nat) : NW lo' lo' w p l := by
  obtain ⟨g, hg, hk⟩ := h
  exact ⟨g, hg, fun k e => by have := hk k e; omega⟩
theorem NW.lt {lo hi : Nat} {w : World} {p : Nat} {l : List UInt8} (h : NW lo hi w p l) : p < w.heap.size := by
  obtain ⟨g, hW, _⟩ := h
  exact hW.lt.1
theorem Wr.fresh (w : World) (t : TypeId) : Wr (w.alloc (.cells #[.slice none 0 0] t)) w.heap.size 0 none [] := by
  refine ⟨none, 0, ?_, ?_, Srow.nil _ _, by simp⟩
  · simp [go_sem]
  · simp [go_sem]
theorem NW.fresh (w : World) (t : TypeId) (lo hi : Nat) : NW lo hi (w.alloc (.cells #[.slice none 0 0] t)) w.heap.size [] := ⟨none, Wr.fresh w t, fun k e => by cases e⟩
/-- What a write to a new writer leaves alone. -/
def WS (lo hi p : Nat) (k : Nat) : Prop := k = p ∨ (lo ≤ k ∧ k < hi)
theorem NW.wrote {lo hi : Nat} {w w' : World} {p : Nat} {g g' : Option Nat} {l' : List UInt8} (hk : ∀ k, g = some k → lo ≤ k ∧ k < hi) (hlo : lo ≤ w.heap.size) (_hhi : hi ≤ w.heap.size) (h : Wrote w w' p 0 g g') (hW : Wr w' p 0 g' l') :
    NW lo w'.heap.size w' p l' ∧ Chgd (WS lo hi p) w w' := by
  refine ⟨⟨g', hW, fun k e => ?_⟩, h.touch.mono fun j _ hj => ?_⟩
  · have h2 := hW.lt.2 k e
    rcases h.row with h1 | ⟨k', h1, h3⟩
    · have := hk k (h1 ▸ e); omega
    · rw [h1] at e; cases e; omega
  · rcases hj with rfl | hj
    · exact .inl rfl
    · exact .inr (hk j hj)

/-- What a number, a text is written as: its bytes, and the error. -/
def numW (n : Nat) (k : Int) : List UInt8 × Int := if 1 ≤ k ∧ k ≤ 8 ∧ n < 256 ^ k.toNat then (be k.toNat n, 0) else ([], 1)
def textW (s : List UInt8) : List UInt8 × Int := if s.length ≤ 64 then (UInt8.ofNat s.length :: s, 0) else ([], 12)

theorem numW_len (n : Nat) (k : Int) : (numW n k).1.length ≤ 8 := by
  unfold numW; split
  · rw [be_length]; omega
  · simp
theorem textW_len (s : List UInt8) : (textW s).1.length ≤ 65 := by
  unfold textW; split
  · simp; omega
  · simp

theorem number_any (lo hi p : Nat) (l : List UInt8) (n : Nat) (k : Int) (w : World) (hW : NW lo hi w p l) (hlo : lo ≤ w.heap.size) (hhi : hi ≤ w.heap.size) (hl : l.length ≤ 1000000000000) (hn64 : n < 18446744073709551616) :
    Calls Try.prog 9 #[.pointer (some ⟨p, 0, none⟩), .int .u64 n, .int .i64 k] w fun r w' => r = .returned (.int .i64 (numW n k).2) ∧ NW lo w'.heap.size w' p (l ++ (numW n k).1) ∧ Chgd (WS lo hi p) w w' := by
  unfold numW
  by_cases h : 1 ≤ k ∧ k ≤ 8 ∧ n < 256 ^ k.toNat
  · rw [if_pos h]
    obtain ⟨q, rfl⟩ := Int.eq_ofNat_of_zero_le (show 0 ≤ k by omega)
    rw [Int.toNat_natCast] at h ⊢
    obtain ⟨g, hWr, hk⟩ := hW
    exact (number_ok p 0 g l n q w hWr hl (by omega) (by omega) h.2.2 hn64).mono fun r w' ⟨hr, g', h1, h2⟩ => ⟨hr, NW.wrote hk hlo hhi h1 h2⟩
  · rw [if_neg h]
    refine (number_no _ n k w hn64 (by
      by_cases h1 : k < 1
      · exact .inl h1
      · by_cases h2 : 8 < k
        · exact .inr (.inl h2)
        · refine .inr (.inr ⟨by omega, by omega, ?_⟩)
          have : ¬ n < 256 ^ k.toNat := fun h3 => h ⟨by omega, by omega, h3⟩
          omega)).mono fun r w' ⟨hr, hw⟩ => ?_
    subst hw
    exact ⟨hr, by simpa using hW.mono (Nat.le_refl _) hhi, Chgd.refl _ _⟩

theorem whash_any (lo hi p : Nat) (l h : List UInt8) (w : World) (hW : NW lo hi w p l) (hlo : lo ≤ w.heap.size) (hhi : hi ≤ w.heap.size) (hl : l.length ≤ 1000000000000) (hh : h.length = 32) :
    Calls Try.prog 13 #[.pointer (some ⟨p, 0, none⟩), hashV h] w fun r w' => r = .returned (.tuple #[]) ∧ NW lo w'.heap.size w' p (l ++ h) ∧ Chgd (WS lo hi p) w w' := by
  obtain ⟨g, hWr, hk⟩ := hW
  exact (hash_any p 0 g l h w hWr hl hh).mono fun r w' ⟨hr, g', h1, h2⟩ => ⟨hr, NW.wrote hk hlo hhi h1 h2⟩

theorem text_any (lo hi p : Nat) (l s : List UInt8) (w : World) (hW : NW lo hi w p l) (hlo : lo ≤ w.heap.size) (hhi : hi ≤ w.heap.size) (hl : l.length ≤ 1000000000000) (hs : s.length ≤ 140737488351232) :
    Calls Try.prog 15 #[.pointer (some ⟨p, 0, none⟩), .string (bstr s)] w fun r w' => r = .returned (.int .i64 (textW s).2) ∧ NW lo w'.heap.size w' p (l ++ (textW s).1) ∧ Chgd (WS lo hi p) w w' := by
  unfold textW
  by_cases h : s.length ≤ 64
  · rw [if_pos h]
    obtain ⟨g, hWr, hk⟩ := hW
    exact (text_ok p 0 g l s w hWr hl h).mono fun r w' ⟨hr, g', h1, h2⟩ => ⟨hr, NW.wrote hk hlo hhi h1 h2⟩
  · rw [if_neg h]
    refine (text_no _ (bstr s) w (by rw [bstr_size]; omega) (by rw [bstr_size]; omega)).mono fun r w' ⟨hr, hw⟩ => ?_
    subst hw
    exact ⟨hr, by simpa using hW.mono (Nat.le_refl _) hhi, Chgd.refl _ _⟩

theorem wbytes_any (lo hi p : Nat) (l : List UInt8) (w : World) (hW : NW lo hi w p l) :
    Calls Try.prog 11 #[.pointer (some ⟨p, 0, none⟩)] w fun r w' => r = .returned (.string (bstr l)) ∧ w = w' := by
  obtain ⟨g, hWr, _⟩ := hW
  exact bytes_any p 0 g l w hWr

theorem refnum_any (n : Nat) (k : Int) (w : World) (hn64 : n < 18446744073709551616) :
    Calls Try.prog 12 #[.int .u64 n, .int .i64 k] w fun r w' => r = .returned (.tuple #[.string (bstr (numW n k).1), .int .i64 (numW n k).2]) ∧ OnlyNew w w' := by
  unfold numW
  by_cases h1 : k < 1 ∨ 8 < k
  · rw [if_neg (by omega)]
    exact (ref_number_no n k w h1).mono fun r w' ⟨hr, hw⟩ => ⟨hr, hw ▸ Chgd.refl _ _⟩
  · obtain ⟨q, rfl⟩ := Int.eq_ofNat_of_zero_le (show 0 ≤ k by omega)
    rw [Int.toNat_natCast]
    refine (ref_number n q w (by omega) (by omega) hn64).mono fun r w' ⟨hr, hw⟩ => ⟨?_, hw⟩
    unfold NumEnd at hr
    by_cases h2 : n < 256 ^ q
    · rw [if_pos h2] at hr
      rw [if_pos ⟨by omega, by omega, h2⟩]; exact hr
    · rw [if_neg h2] at hr
      rw [if_neg (fun h => h2 h.2.2)]; exact hr

theorem reftextw_any (s : List UInt8) (w : World) (hs : s.length ≤ 140737488351232) :
    Calls Try.prog 16 #[.string (bstr s)] w fun r w' => r = .returned (.tuple #[.string (bstr (textW s).1), .int .i64 (textW s).2]) ∧ OnlyNew w w' := by
  unfold textW
  by_cases h : s.length ≤ 64
  · rw [if_pos h]; exact ref_text_ok s w h
  · rw [if_neg h]
    exact (ref_text_no (bstr s) w (by rw [bstr_size]; omega) (by rw [bstr_size]; omega)).mono fun r w' ⟨hr, hw⟩ => ⟨hr, hw ▸ Chgd.refl _ _⟩

/-- Two hashes, compared. -/
theorem size_u8 (w : World) : (sizeOf 5).run Try.prog w = .ok 1 w := rfl
theorem eq_hash (w : World) (xs ys : List UInt8) (hx : xs.length = 32) (hy : ys.length = 32) :
    (Op.equalIn 10000 34 (.agg (cellsOf xs).toArray) (.agg (cellsOf ys).toArray)).run Try.prog w = .ok (xs == ys) w :=
  run_equalIn_bytes w 9998 34 5 32 Try.underlying34 Try.underlying5 size_u8 xs ys hx hy

/-- A new reader. -/
theorem rnew_any (s : List UInt8) (w : World) :
    Calls Try.prog 17 #[.string (bstr s)] w fun r w' => r = .returned (.pointer (some ⟨w.heap.size, 0, none⟩)) ∧ Rd w' w.heap.size s ∧ OnlyNew w w' ∧ w'.heap.size = w.heap.size + 1 := by
  refine (new_any (bstr s) w).mono fun r w' ⟨hr, hw⟩ => ?_
  subst hw
  exact ⟨hr, ⟨by simp [go_sem], by simp [go_sem]⟩, (Chgd.refl _ _).alloc _, by simp⟩

set_option maxHeartbeats 1000000 in
theorem shown_any (w : World) :
    Calls Try.prog 10 #[] w fun r w' => r = .returned (.bool true) ∧ OnlyNew w w' := by
  go_enter Try.func10, Try.ntmps10
  go_wp2_with fail
  have hF := NW.fresh w 26 (w.heap.size + 1) (w.heap.size + 1)
  refine (number_any (w.heap.size + 1) (w.heap.size + 1) w.heap.size [] 258 2 _ hF (by simp) (by simp) (by simp) (by omega)).mono ?_
  rintro e w1 ⟨rfl, hW1, hc1⟩
  have hO1 : OnlyNew w w1 := ((Chgd.refl _ w).alloc _).trans hc1 (fun j hj h => by unfold WS at h; omega)
  have hz1 := hc1.size
  rw [show (numW 258 2).2 = 0 by decide]
  rw [show [] ++ (numW 258 2).1 = be 2 258 by decide] at hW1
  clear hc1 hF
  simp only [World.size_alloc] at hz1
  go_wp2_with fail
  refine (wbytes_any _ _ _ _ w1 hW1).mono ?_
  rintro e w2 ⟨rfl, rfl⟩
  go_wp2_with fail
  refine (rnew_any _ w1).mono ?_
  rintro e w2 ⟨rfl, hR2, hO2, hz2⟩
  go_wp2_with fail
  refine (rnumber_any w1.heap.size _ 2 w2 hR2 (by decide)).mono ?_
  rintro e w3 ⟨rfl, hR3, hO3⟩
  rw [show (numOf 2 (be 2 258)).1 = 258 by decide, show (numOf 2 (be 2 258)).2.1 = 0 by decide]
  go_wp2_with fail
  refine (wbytes_any _ _ _ _ w3 ((hW1.keep hO2 (fun h => h) (fun _ _ _ h => h)).keep hO3 (by have := hW1.lt; omega) (fun k _ _ => by omega))).mono ?_
  rintro e w4 ⟨rfl, rfl⟩
  go_wp2
  go_ret
  exact ⟨ret_bool (by rw [bstr_toList]; decide), (hO1.trans hO2 (fun _ _ h => h)).trans hO3 (fun j hj e => by have := hO1.size; omega)⟩
end Go.Proofs.Ytkgmjphdocmodaa.Octet
