/- The contracts of octet's Reader, and of the reference's. -/
import Derived.Test.YtkgmjphdocmodaaOctet0
import Derived.WalkSpells
import Derived.WalkLawsBesides
import Derived.Lib.PathFns
namespace Go.Proofs.Ytkgmjphdocmodaa.Octet
open Go.RowKit Go.Proofs.Ytkgmjphdocmodaa.Mem

/-- A reader's one field lies at the head of block p: the bytes that are left. -/
def Rd (w : World) (p : Nat) (s : List UInt8) : Prop := w.cell? ⟨p, 0, none⟩ = some (.string (bstr s)) ∧ w.frozen? ⟨p, 0, none⟩ = false
/-- Only the reader's own block is written. -/
abbrev Only (p : Nat) (w w' : World) : Prop := Chgd (fun k => k = p) w w'
theorem Rd.keep {w w' : World} {S : Nat → Prop} {p : Nat} {s : List UInt8} (h : Rd w p s) (ht : Chgd S w w') (hp : ¬ S p) : Rd w' p s :=
  ⟨ht.at_ h.1 hp, (ht.frozen (p := ⟨p, 0, none⟩) (block_lt h.1) hp).trans h.2⟩
theorem Rd.lt {w : World} {p : Nat} {s : List UInt8} (h : Rd w p s) : p < w.heap.size := block_lt (p := ⟨p, 0, none⟩) h.1
theorem Rd.set {w : World} {p : Nat} {s t : List UInt8} (h : Rd w p s) : Rd (w.setCell ⟨p, 0, none⟩ (.string (bstr t))) p t ∧ Only p w (w.setCell ⟨p, 0, none⟩ (.string (bstr t))) :=
  ⟨⟨World.cell?_setCell_same _ _ _ h.1, by rw [World.frozen?_setCell]; exact h.2⟩, (Chgd.refl (fun k => k = p) w).setCell (p := ⟨p, 0, none⟩) (fun _ => rfl) _⟩

theorem extract_take (l : List UInt8) (k : Nat) : (bstr l).extract 0 k = bstr (l.take k) := Lib.Pa.extract_upto (bstr l) k
theorem extract_drop (l : List UInt8) (k : Nat) : (bstr l).extract k (bstr l).size = bstr (l.drop k) := Lib.Pa.extract_from (bstr l) k

theorem left_any (p : Nat) (s : List UInt8) (w : World) (h : Rd w p s) :
    Calls Try.prog 19 #[.pointer (some ⟨p, 0, none⟩)] w fun r w' => r = .returned (.int .i64 s.length) ∧ w = w' := by
  obtain ⟨hc, hf⟩ := h
  have e := bstr_size s
  go_enter Try.func19, Try.ntmps19
  go_wp2
  go_ret
  exact ⟨rfl, rfl⟩

theorem end_any (p : Nat) (s : List UInt8) (w : World) (h : Rd w p s) :
    Calls Try.prog 26 #[.pointer (some ⟨p, 0, none⟩)] w fun r w' => r = .returned (.int .i64 (if s = [] then 0 else 11)) ∧ w = w' := by
  obtain ⟨hc, hf⟩ := h
  have el := bstr_toList s
  obtain ⟨b, hb⟩ : ∃ b, b = bstr s := ⟨_, rfl⟩
  rw [← hb] at hc el
  clear hb
  by_cases h0 : s = []
  · rw [if_pos h0]
    subst h0
    go_enter Try.func26, Try.ntmps26
    go_wp2
    go_ret
    exact ⟨rfl, rfl⟩
  · rw [if_neg h0]
    have e0 : b.toList.isEmpty = false := by rw [el]; cases s <;> simp_all
    clear el h0
    go_enter Try.func26, Try.ntmps26
    go_wp2
    go_ret
    exact ⟨rfl, rfl⟩

theorem take_short (p : Nat) (s : List UInt8) (n : Int) (w : World) (h : Rd w p s) (hn : s.length < n) :
    Calls Try.prog 30 #[.pointer (some ⟨p, 0, none⟩), .int .i64 n] w fun r w' => r = .returned (.tuple #[.string ⟨#[]⟩, .int .i64 10]) ∧ w = w' := by
  obtain ⟨hc, hf⟩ := h
  have e := bstr_size s
  go_enter Try.func30, Try.ntmps30
  go_wp2
  go_ret2
  exact ⟨rfl, rfl⟩

theorem take_ok (p : Nat) (s : List UInt8) (n : Nat) (w : World) (h : Rd w p s) (hs : s.length ≤ 1000000000000) (hn : n ≤ s.length) :
    Calls Try.prog 30 #[.pointer (some ⟨p, 0, none⟩), .int .i64 n] w fun r w' => r = .returned (.tuple #[.string (bstr (s.take n)), .int .i64 0]) ∧ Rd w' p (s.drop n) ∧ Only p w w' := by
  have hR := h
  obtain ⟨hc, hf⟩ := h
  obtain ⟨b, hb⟩ : ∃ b, b = bstr s := ⟨_, rfl⟩
  have e1 : b.extract 0 n = bstr (s.take n) := by rw [hb]; exact extract_take _ _
  have e2 : b.extract n b.size = bstr (s.drop n) := by rw [hb]; exact extract_drop _ _
  have hsz : b.size = s.length := by rw [hb, bstr_size]
  rw [← hb] at hc
  have hb1 : n ≤ b.size := by omega
  have hb2 : b.size ≤ 1000000000000 := by omega
  have E1 := Lib.hid e1
  have E2 := Lib.hid e2
  clear hb e1 e2 hsz hs hn
  go_enter Try.func30, Try.ntmps30
  go_wp2
  go_ret2
  have hw := hR.set (t := s.drop n)
  rw [← E2.out] at hw
  exact ⟨ret_str2 E1.out, hw.1, hw.2⟩
end Go.Proofs.Ytkgmjphdocmodaa.Octet
