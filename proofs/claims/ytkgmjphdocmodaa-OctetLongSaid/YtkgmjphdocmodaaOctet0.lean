/- Bytes of numbers: plain laws on lists and numbers; a writer in memory. -/
import Derived.Test.YtkgmjphdocmodaaMem
import Derived.Test.YtkgmjphdocmodaaRows
import Derived.Lib.BitFns
import Derived.Lib.ItoaNum
namespace Go.Proofs.Ytkgmjphdocmodaa.Octet
open Go.RowKit Go.Proofs.Ytkgmjphdocmodaa.Mem

/-- The first j of the k bytes of n, the highest one first. -/
def beTo (k n j : Nat) : List UInt8 := (List.range j).map fun t => UInt8.ofNat (n / 256 ^ (k - 1 - t))
/-- The k bytes of n, the highest one first. -/
def be (k n : Nat) : List UInt8 := beTo k n k
theorem beTo_length (k n j : Nat) : (beTo k n j).length = j := by simp [beTo]
theorem be_length (k n : Nat) : (be k n).length = k := beTo_length k n k
theorem beTo_succ (k n j : Nat) : beTo k n (j + 1) = beTo k n j ++ [UInt8.ofNat (n / 256 ^ (k - 1 - j))] := by simp [beTo, List.range_succ]

theorem fits_iff (n k : Nat) (hk : k ≤ 8) (hn : n < 2 ^ 64) : Lib.bitLen n ≤ 8 * k ↔ n < 256 ^ k := by
  have e : (256 : Nat) ^ k = 2 ^ (8 * k) := by rw [Nat.pow_mul]
  rw [e]
  constructor
  · intro h
    by_cases h0 : n = 0
    · subst h0; exact Nat.two_pow_pos _
    · have := Lib.bitLenAux_bounds 64 n hn h0
      exact Nat.lt_of_lt_of_le this.2.2 (Nat.pow_le_pow_right (by decide) h)
  · intro h
    exact Lib.bitLen_le n (8 * k) (by omega) h

/-- A writer's one field lies at ⟨p, o⟩: a slice that holds the bytes l, in the block g. -/
def Wr (w : World) (p o : Nat) (g : Option Nat) (l : List UInt8) : Prop :=
  ∃ ao cap, w.cell? ⟨p, o, none⟩ = some (.slice ao l.length cap) ∧ w.frozen? ⟨p, o, none⟩ = false ∧ Srow w 1 ao l.length cap (cellsOf l) g ∧ g ≠ some p
/-- What a write leaves alone. -/
structure Wrote (w w' : World) (p o : Nat) (g g' : Option Nat) : Prop where
  touch : Chgd (fun k => k = p ∨ g = some k) w w'
  row : g' = g ∨ ∃ k, g' = some k ∧ w.heap.size ≤ k
  cell : ∀ o', o' ≠ o → w'.cell? ⟨p, o', none⟩ = w.cell? ⟨p, o', none⟩
  frozen : ∀ o', w'.frozen? ⟨p, o', none⟩ = w.frozen? ⟨p, o', none⟩
theorem Wrote.refl (w : World) (p o : Nat) (g : Option Nat) : Wrote w w p o g g := ⟨Chgd.refl _ _, .inl rfl, fun _ _ => rfl, fun _ => rfl⟩
theorem Wrote.trans {a b c : World} {p o : Nat} {g g' g'' : Option Nat} (h : Wrote a b p o g g') (k : Wrote b c p o g' g'') : Wrote a c p o g g'' := by
  refine ⟨h.touch.trans k.touch ?_, ?_, fun o' ho => (k.cell o' ho).trans (h.cell o' ho), fun o' => (k.frozen o').trans (h.frozen o')⟩
  · rintro j hj (rfl | hg)
    · exact .inl rfl
    · rcases h.row with rfl | ⟨k', hk', hle⟩
      · exact .inr hg
      · rw [hk'] at hg; cases hg; omega
  · rcases k.row with rfl | ⟨k', hk', hle⟩
    · exact h.row
    · exact .inr ⟨k', hk', Nat.le_trans h.touch.size hle⟩
theorem Wr.lt {w : World} {p o : Nat} {g : Option Nat} {l : List UInt8} (h : Wr w p o g l) : p < w.heap.size ∧ ∀ k, g = some k → k < w.heap.size := by
  obtain ⟨ao, cap, hc, _, hR, _⟩ := h
  exact ⟨block_lt (p := ⟨p, o, none⟩) hc, hR.lt⟩
theorem Wr.keep {w w' : World} {S : Nat → Prop} {p o : Nat} {g : Option Nat} {l : List UInt8} (h : Wr w p o g l) (ht : Chgd S w w') (hp : ¬ S p) (hg : ∀ k, g = some k → ¬ S k) : Wr w' p o g l := by
  obtain ⟨ao, cap, hc, hf, hR, hne⟩ := h
  exact ⟨ao, cap, ht.at_ hc hp, (ht.frozen (p := ⟨p, o, none⟩) (block_lt (p := ⟨p, o, none⟩) hc) hp).trans hf, hR.keep ht hg, hne⟩
/-- A writer's slice, appended to in w1, is stored back. -/
theorem Wr.stored {wr w1 : World} {p o : Nat} {g g1 : Option Nat} {L l2 : List UInt8} {ao1 : Option Addr} {m cap1 : Nat} {xs : List Value} (h : Wr wr p o g L) (ht : Chgd (fun k => g = some k) wr w1)
    (hR : Srow w1 1 ao1 m cap1 xs g1) (hx : xs = cellsOf l2) (hm : m = l2.length) (hg : g1 = g ∨ ∃ k, g1 = some k ∧ wr.heap.size ≤ k) :
    Wrote wr (w1.setCell ⟨p, o, none⟩ (.slice ao1 m cap1)) p o g g1 ∧ Wr (w1.setCell ⟨p, o, none⟩ (.slice ao1 m cap1)) p o g1 l2 := by
  subst hx hm
  obtain ⟨ao, cap, hc, hf, _, hne⟩ := h
  have hp := block_lt hc
  have k1 := ht.at_ hc hne
  have k2 := (ht.frozen (p := ⟨p, o, none⟩) hp hne).trans hf
  have hne1 : g1 ≠ some p := by
    rcases hg with rfl | ⟨k, rfl, hk⟩
    · exact hne
    · intro e; cases e; simp at hp; omega
  have hs : Chgd (fun k => k = p) w1 (w1.setCell ⟨p, o, none⟩ (.slice ao1 l2.length cap1)) := (Chgd.refl (fun k => k = p) w1).setCell (p := ⟨p, o, none⟩) (fun _ => rfl) _
  refine ⟨⟨(ht.mono (fun _ _ h => .inr h)).setCell (fun _ => .inl rfl) _, hg, fun o' ho => ?_, fun o' => ?_⟩, ao1, cap1, World.cell?_setCell_same _ _ _ k1, by rw [World.frozen?_setCell]; exact k2, hR.keep hs (fun k hk e => hne1 (by rw [hk, e])), hne1⟩
  · have hno : (⟨p, o, none⟩ : Addr) ≠ ⟨p, o', none⟩ := fun e => ho (by simpa using e.symm)
    rw [World.cell?_setCell_other _ _ _ _ hno]
    exact ht.cell (p := ⟨p, o', none⟩) hp hne
  · rw [World.frozen?_setCell]
    exact ht.frozen (p := ⟨p, o', none⟩) hp hne

theorem be_zero (n : Nat) : be 0 n = [] := rfl
theorem be_succ (k n : Nat) : be (k + 1) n = UInt8.ofNat (n / 256 ^ k) :: be k n := by
  unfold be beTo
  rw [List.range_succ_eq_map, List.map_cons, List.map_map]
  simp only [Nat.add_sub_cancel, Nat.sub_zero]
  congr 1
  apply List.map_congr_left
  intro t ht
  have ht' := List.mem_range.1 ht
  simp only [Function.comp_apply, Nat.succ_eq_add_one]
  rw [show k - (t + 1) = k - 1 - t by omega]

/-- string([]byte of one byte that has just been made). -/
theorem str_one {P : Program} {src e dst t : TypeId} (hs : P.underlying src = some (.slice e)) (he : P.underlying e = some (.int .u8)) (hd : P.underlying dst = some .string) (w : World) (u : Int) :
    (convert src dst (.slice (some ⟨w.heap.size, 0, none⟩) 1 1)).run P (w.alloc (.cells #[.int .u8 u] t)) = .ok (.string ⟨#[UInt8.ofNat u.toNat]⟩) (w.alloc (.cells #[.int .u8 u] t)) := by
  have hr := run_convert_bytes_arg (P := P) (w.alloc (.cells #[.int .u8 u] t)) src e hs he w.heap.size 0 1 1 [u] rfl (fun i hi => by
    obtain rfl : i = 0 := by omega
    have hg : (w.alloc (.cells #[Value.int .u8 u] t)).heap[w.heap.size]? = some (.cells #[.int .u8 u] t (0, 0)) := (MapKept.heap_alloc w _).1
    unfold World.cell?
    rw [hg]
    rfl) dst hd
  rw [hr]
  rfl
theorem byte_cons (m : Nat) (l : List UInt8) : (⟨#[UInt8.ofNat ((m : Int) % 256).toNat]⟩ : ByteArray) ++ bstr l = bstr (UInt8.ofNat m :: l) := by
  have e : UInt8.ofNat ((m : Int) % 256).toNat = UInt8.ofNat m := by
    have : ((m : Int) % 256).toNat = m % 256 := by omega
    rw [this]
    apply UInt8.toNat_inj.1
    simp
  rw [e]
  apply ByteArray.ext
  simp [bstr, ByteArray.data_append]
end Go.Proofs.Ytkgmjphdocmodaa.Octet
