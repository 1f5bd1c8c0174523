/- Padding, sums, streams, in plain Lean; rows of bytes that are written. -/
import Derived.Test.YtomalanncdcopaaDoorDig0
set_option linter.unusedSimpArgs false
set_option linter.unusedVariables false
namespace Go.Proofs.YtomalanncdcopaaDoor.Dig
open Go Go.RowKit Go.Proofs.YtomalanncdcopaaDoor.Mem

/-- Byte i, from the highest one on, of eight. -/
def byteAt (m i : Nat) : UInt8 := UInt8.ofNat (m / 2 ^ (56 - 8 * i))
def be8 (m : Nat) : List UInt8 := (List.range 8).map (byteAt m)
theorem be8_length (m : Nat) : (be8 m).length = 8 := by simp [be8]
/-- The last eight bytes, up to the i-th, written anew. -/
def lens (l : List UInt8) (m : Nat) : Nat → List UInt8
  | 0 => l
  | i + 1 => (lens l m i).set (l.length - 8 + i) (byteAt (m * 8) i)
theorem lens_length (l : List UInt8) (m : Nat) : ∀ i, (lens l m i).length = l.length
  | 0 => rfl
  | i + 1 => by simp [lens, lens_length l m i]
theorem lens_app (x y : List UInt8) (hy : y.length = 8) (m : Nat) : ∀ i, i ≤ 8 → lens (x ++ y) m i = x ++ ((be8 (m * 8)).take i ++ y.drop i) := by
  intro i
  induction i with
  | zero => intro _; rfl
  | succ i ih =>
    intro hi
    rw [lens, ih (by omega)]
    have e1 : (x ++ y).length - 8 + i = x.length + i := by simp; omega
    rw [e1, List.set_append_right _ _ (by omega), Nat.add_sub_cancel_left]
    congr 1
    have hb := be8_length (m * 8)
    have e2 : ((be8 (m * 8)).take i).length = i := by simp [hb]; omega
    rw [List.set_append_right _ _ (by omega), e2, Nat.sub_self]
    have e3 : (be8 (m * 8)).take (i + 1) = (be8 (m * 8)).take i ++ [byteAt (m * 8) i] := by
      rw [List.take_succ_eq_append_getElem (by omega)]
      simp [be8]
    rw [e3, List.append_assoc]
    congr 1
    have hd : y.drop i = y[i] :: y.drop (i + 1) := List.drop_eq_getElem_cons (by omega)
    rw [hd]
    rfl
theorem lens_all (x y : List UInt8) (hy : y.length = 8) (m : Nat) : lens (x ++ y) m 8 = x ++ be8 (m * 8) := by
  rw [lens_app x y hy m 8 (by omega), List.take_of_length_le (by rw [be8_length]; omega), List.drop_of_length_le (by omega), List.append_nil]
/-- How many bytes 0 a padding has. -/
def zeros (n : Nat) : Nat := (119 - n % 64) % 64
theorem zeros_lt (n : Nat) : zeros n < 64 := by unfold zeros; omega
theorem zeros_hit (n : Nat) : (n + 1 + zeros n) % 64 = 56 := by unfold zeros; omega
theorem zeros_miss (n j : Nat) (h : j < zeros n) : (n + 1 + j) % 64 ≠ 56 := by unfold zeros at h; omega
def pad (l : List UInt8) : List UInt8 := l ++ 128 :: List.replicate (zeros l.length) 0 ++ be8 (l.length * 8)
theorem pad_length (l : List UInt8) : (pad l).length = l.length + 1 + zeros l.length + 8 := by simp [pad, be8_length]; omega
/-- A hash's bytes, up to the i-th. -/
def outAt (h : List Word) (i : Nat) : UInt8 := UInt8.ofNat ((wat h (i / 4)).toNat / 2 ^ (24 - 8 * (i % 4)))
def outs (h : List Word) : Nat → List UInt8
  | 0 => List.replicate 32 0
  | i + 1 => (outs h i).set i (outAt h i)
theorem outs_length (h : List Word) : ∀ i, (outs h i).length = 32
  | 0 => by simp [outs]
  | i + 1 => by simp [outs, outs_length h i]
def hashOf (h : List Word) : List UInt8 := outs h 32
theorem hashOf_length (h : List Word) : (hashOf h).length = 32 := outs_length h 32
/-- n blocks, one behind the other. -/
def run (h : List Word) (l : List UInt8) : Nat → List Word
  | 0 => h
  | n + 1 => run (comp h (l.take 64)) (l.drop 64) n
theorem run_length (n : Nat) : ∀ (h : List Word) (l : List UInt8), (run h l n).length = h.length := by
  induction n with
  | zero => intro h l; rfl
  | succ n ih => intro h l; rw [run, ih, comp_length]
theorem run_snoc (n : Nat) : ∀ (h : List Word) (l : List UInt8), run h l (n + 1) = comp (run h l n) ((l.drop (64 * n)).take 64) := by
  induction n with
  | zero => intro h l; simp [run]
  | succ n ih =>
    intro h l
    rw [run, ih, run, List.drop_drop, show 64 + 64 * n = 64 * (n + 1) by omega]
theorem run_add (m : Nat) : ∀ (n : Nat) (h : List Word) (l : List UInt8), run h l (m + n) = run (run h l m) (l.drop (64 * m)) n := by
  induction m with
  | zero => intro n h l; simp [run]
  | succ m ih =>
    intro n h l
    rw [show m + 1 + n = (m + n) + 1 by omega, run, ih, run, List.drop_drop, show 64 + 64 * m = 64 * (m + 1) by omega]
theorem run_app (n : Nat) : ∀ (h : List Word) (l r : List UInt8), 64 * n ≤ l.length → run h (l ++ r) n = run h l n := by
  induction n with
  | zero => intro h l r _; rfl
  | succ n ih =>
    intro h l r hl
    rw [run, run, List.take_append_of_le_length (by omega), List.drop_append_of_le_length (by omega), ih _ _ _ (by simp; omega)]
/-- The words at first. -/
def iv : List Word := [0x6a09e667, 0xbb67ae85, 0x3c6ef372, 0xa54ff53a, 0x510e527f, 0x9b05688c, 0x1f83d9ab, 0x5be0cd19]
/-- The sum of a text. -/
def sha (l : List UInt8) : List UInt8 := hashOf (run iv (pad l) ((pad l).length / 64))
theorem sha_length (l : List UInt8) : (sha l).length = 32 := hashOf_length _
/-- A sum out of what stands behind the whole blocks. -/
theorem sha_rest (t : List UInt8) :
    sha t = hashOf (run (run iv t (t.length / 64)) (t.drop (64 * (t.length / 64)) ++ 128 :: List.replicate (zeros (t.drop (64 * (t.length / 64))).length) 0 ++ be8 (t.length * 8))
      ((t.drop (64 * (t.length / 64)) ++ 128 :: List.replicate (zeros (t.drop (64 * (t.length / 64))).length) 0 ++ be8 (t.length * 8)).length / 64)) := by
  obtain ⟨q, hq⟩ : ∃ q, q = t.length / 64 := ⟨_, rfl⟩
  have hle : 64 * q ≤ t.length := by omega
  have hz : zeros (t.drop (64 * q)).length = zeros t.length := by unfold zeros; rw [List.length_drop]; omega
  rw [← hq, hz]
  unfold sha
  have hpl : (pad t).length / 64 = q + (t.drop (64 * q) ++ 128 :: List.replicate (zeros t.length) 0 ++ be8 (t.length * 8)).length / 64 := by
    rw [pad_length]
    simp only [List.length_append, List.length_cons, List.length_replicate, List.length_drop, be8_length]
    omega
  have hpd : (pad t).drop (64 * q) = t.drop (64 * q) ++ 128 :: List.replicate (zeros t.length) 0 ++ be8 (t.length * 8) := by
    unfold pad
    rw [List.append_assoc, List.drop_append_of_le_length hle, ← List.append_assoc]
  rw [hpl, run_add, hpd]
  congr 2
  unfold pad
  rw [List.append_assoc, run_app _ _ _ _ hle]

theorem cellsOf_set (l : List UInt8) (i : Nat) (c : UInt8) : (cellsOf l).set i (.int .u8 (c.toNat : Int)) = cellsOf (l.set i c) := by simp [cellsOf, List.map_set]
theorem cellsOf_get {l : List UInt8} {i : Nat} (h : i < l.length) : (cellsOf l)[i]? = some (.int .u8 ((l.getD i 0).toNat : Int)) := by simp [cellsOf, List.getD, h]
/-- One byte of a row is written. -/
theorem Srow.set {w : World} {b off n cap : Nat} {xs : List Value} (h : Srow w 1 (some ⟨b, off, none⟩) n cap xs (some b)) {i : Nat} (hi : i < n) (v : Value) :
    Srow (w.setCell ⟨b, off + i, none⟩ v) 1 (some ⟨b, off, none⟩) n cap (xs.set i v) (some b) := by
  rcases h with ⟨h1, _⟩ | ⟨b', off', h1, h2, h3, h4, h5, hb, hc, hf, hx⟩
  · cases h1
  · cases h1
    simp only [Nat.mul_one] at h5 hc hf
    have hne : ∀ j, ¬ i = j → (⟨b, off + i, none⟩ : Addr) ≠ ⟨b, off + j, none⟩ := fun j hj => ne_off hj
    obtain ⟨u0, hu0⟩ := hc i (by omega)
    refine .inr ⟨b, off, rfl, rfl, h3, h4, by simp [h5], by simpa using hb, fun j hj => ?_, fun j hj => by rw [World.frozen?_setCell]; exact hf j (by omega), fun j u hj => ?_⟩
    · by_cases hij : i = j
      · subst hij; exact ⟨v, World.cell?_setCell_same _ _ _ hu0⟩
      · rw [World.cell?_setCell_other _ _ _ _ (hne j hij)]; exact hc j (by omega)
    · by_cases hij : i = j
      · subst hij
        rw [List.getElem?_set_self (by omega)] at hj
        cases hj
        exact World.cell?_setCell_same _ _ _ hu0
      · rw [List.getElem?_set_ne hij] at hj
        rw [World.cell?_setCell_other _ _ _ _ (hne j hij)]
        exact hx j u hj
theorem Srow.at_ {w : World} {b off n cap : Nat} {xs : List Value} (h : Srow w 1 (some ⟨b, off, none⟩) n cap xs (some b)) {i : Nat} {v : Value} (hi : xs[i]? = some v) :
    w.cell? ⟨b, off + i, none⟩ = some v ∧ w.frozen? ⟨b, off + i, none⟩ = false := by
  rcases h with ⟨h1, _⟩ | ⟨b', off', h1, h2, h3, h4, h5, hb, hc, hf, hx⟩
  · cases h1
  · cases h1
    have := (List.getElem?_eq_some_iff.1 hi).1
    exact ⟨hx i v hi, hf i (by omega)⟩

theorem Srow.sub {w : World} {b off n cap : Nat} {xs : List Value} (h : Srow w 1 (some ⟨b, off, none⟩) n cap xs (some b)) (i k : Nat) (hk : i + k ≤ n) :
    Srow w 1 (some ⟨b, off + i, none⟩) k (cap - i) ((xs.drop i).take k) (some b) := by
  rcases h with ⟨h1, _⟩ | ⟨b', off', h1, h2, h3, h4, h5, hb, hc, hf, hx⟩
  · cases h1
  · cases h1
    simp only [Nat.mul_one] at h5 hc hf
    refine .inr ⟨b, off + i, rfl, rfl, by omega, by omega, by simp; omega, hb, fun j hj => ?_, fun j hj => ?_, fun j u hj => ?_⟩
    · have := hc (i + j) (by omega); rwa [← Nat.add_assoc] at this
    · have := hf (i + j) (by omega); rwa [← Nat.add_assoc] at this
    · have hjk : j < k := by have := (List.getElem?_eq_some_iff.1 hj).1; simp at this; omega
      rw [List.getElem?_take_of_lt hjk, List.getElem?_drop] at hj
      have := hx (i + j) u hj
      rwa [← Nat.add_assoc] at this
theorem cellsOf_sub (l : List UInt8) (i k : Nat) : ((cellsOf l).drop i).take k = cellsOf ((l.drop i).take k) := by simp [cellsOf, List.map_drop, List.map_take]
/-- A stream's fields. -/
def stmCells (h : List Word) (r : List UInt8) (m : Nat) : List Value := wcells h ++ [.string (bstr r), .int .i64 m]
theorem stmCells_length (h : List Word) (hh : h.length = 8) (r : List UInt8) (m : Nat) : (stmCells h r m).length = 10 := by simp [stmCells, wcells_length, hh]
theorem stm8 {w : World} {p : Nat} {h : List Word} (hh : h.length = 8) {r : List UInt8} {m : Nat} (hR : Row w p 0 (stmCells h r m)) : w.cell? ⟨p, 8, none⟩ = some (.string (bstr r)) :=
  hR.cell0 (i := 8) (by unfold stmCells; rw [List.getElem?_append_right (by rw [wcells_length]; omega), wcells_length, hh]; rfl)
theorem stm9 {w : World} {p : Nat} {h : List Word} (hh : h.length = 8) {r : List UInt8} {m : Nat} (hR : Row w p 0 (stmCells h r m)) : w.cell? ⟨p, 9, none⟩ = some (.int .i64 m) :=
  hR.cell0 (i := 9) (by unfold stmCells; rw [List.getElem?_append_right (by rw [wcells_length]; omega), wcells_length, hh]; rfl)
theorem stm_set8 {w : World} {p : Nat} {h : List Word} (hh : h.length = 8) {r : List UInt8} {m : Nat} (hR : Row w p 0 (stmCells h r m)) (r' : List UInt8) : Row (w.setCell ⟨p, 8, none⟩ (.string (bstr r'))) p 0 (stmCells h r' m) := by
  have := hR.set0 (i := 8) (by rw [stmCells_length h hh]; omega) (.string (bstr r'))
  have e : (stmCells h r m).set 8 (.string (bstr r')) = stmCells h r' m := by
    unfold stmCells
    rw [List.set_append_right _ _ (by rw [wcells_length]; omega), wcells_length, hh]
    rfl
  rwa [e] at this
theorem stm_set9 {w : World} {p : Nat} {h : List Word} (hh : h.length = 8) {r : List UInt8} {m : Nat} (hR : Row w p 0 (stmCells h r m)) (m' : Nat) : Row (w.setCell ⟨p, 9, none⟩ (.int .i64 m')) p 0 (stmCells h r m') := by
  have := hR.set0 (i := 9) (by rw [stmCells_length h hh]; omega) (.int .i64 m')
  have e : (stmCells h r m).set 9 (.int .i64 m') = stmCells h r m' := by
    unfold stmCells
    rw [List.set_append_right _ _ (by rw [wcells_length]; omega), wcells_length, hh]
    rfl
  rwa [e] at this
/-- What a stream that has had the text t is. -/
def Stm (w : World) (p : Nat) (t : List UInt8) : Prop :=
  ∃ h, h.length = 8 ∧ (t ≠ [] → h = run iv t (t.length / 64)) ∧ Row w p 0 (stmCells h (t.drop (64 * (t.length / 64))) t.length)
theorem Stm.keep {w w' : World} {p : Nat} {t : List UInt8} {S : Nat → Prop} (h : Stm w p t) (hc : Chgd S w w') (hs : ¬ S p) : Stm w' p t := by
  obtain ⟨h, h1, h2, h3⟩ := h
  exact ⟨h, h1, h2, h3.keep hc hs⟩
theorem bstr_take (l : List UInt8) (n : Nat) : (bstr l).extract 0 n = bstr (l.take n) := by
  apply ByteArray.ext
  simp [bstr, ByteArray.data_extract]
theorem bstr_drop (l : List UInt8) (n : Nat) : (bstr l).extract n (bstr l).size = bstr (l.drop n) := by
  apply ByteArray.ext
  have : (bstr l).size = l.length := bstr_size l
  simp only [ByteArray.data_extract, this]
  simp [bstr]
  exact List.take_of_length_le (by simp)
end Go.Proofs.YtomalanncdcopaaDoor.Dig
