/- The items of layer 1's statements, opened. -/
import Derived.Test.YtkgmjphdocmodaaOctetL
import Derived.Test.YtkgmjphdocmodaaOpen
namespace Go.Proofs.Ytkgmjphdocmodaa.Octet
open Go.RowKit Go.Proofs.Ytkgmjphdocmodaa.Mem Go.ChangeShapes Go.WideShapes

structure Item where
  kind : Int
  width : Int
  n : Nat
  h : List UInt8
  s : List UInt8

instance : Inhabited Item := ⟨⟨0, 0, 0, [], []⟩⟩

/-- An item lies at ⟨b, o⟩. -/
structure ItemAt (w : World) (b o : Nat) (x : Item) : Prop where
  kind : w.cell? ⟨b, o, none⟩ = some (.int .i64 x.kind)
  width : w.cell? ⟨b, o + 1, none⟩ = some (.int .i64 x.width)
  n : w.cell? ⟨b, o + 2, none⟩ = some (.int .u64 x.n)
  h : w.rangeAt b (o + 3) (cellsOf x.h)
  s : w.cell? ⟨b, o + 35, none⟩ = some (.string (bstr x.s))
  k0 : -9223372036854775808 ≤ x.kind ∧ x.kind ≤ 9223372036854775807
  w0 : -9223372036854775808 ≤ x.width ∧ x.width ≤ 9223372036854775807
  n64 : x.n < 18446744073709551616
  hh : x.h.length = 32
  hs : x.s.length ≤ maxLen
theorem ItemAt.keep {w w' : World} {S : Nat → Prop} {b o : Nat} {x : Item} (h : ItemAt w b o x) (ht : Chgd S w w') (hb : ¬ S b) : ItemAt w' b o x :=
  ⟨ht.at_ h.kind hb, ht.at_ h.width hb, ht.at_ h.n hb, rangeAt.keep h.h ht hb, ht.at_ h.s hb, h.k0, h.w0, h.n64, h.hh, h.hs⟩

theorem take_one {cs : List Value} {o : Nat} {v : Value} (h : (cs.drop o).take 1 = [v]) : cs[o]? = some v := by
  have := congrArg (fun l => l[0]?) h
  simpa using this
theorem take_cells {cs us : List Value} {o n : Nat} (h : (cs.drop o).take n = us) (j : Nat) (v : Value) (hj : us[j]? = some v) : cs[o + j]? = some v := by
  subst h
  rw [List.getElem?_take] at hj
  split at hj
  · rw [List.getElem?_drop] at hj; exact hj
  · cases hj
theorem cells_int : Try.prog.cellsOf 3 = 1 := by kernel_rfl
theorem cells_u64 : Try.prog.cellsOf 22 = 1 := by kernel_rfl
theorem cells_str : Try.prog.cellsOf 9 = 1 := by kernel_rfl
theorem cells_u8 : Try.prog.cellsOf 5 = 1 := by kernel_rfl
theorem cells_item : Try.prog.cellsOf 36 = 36 := by kernel_rfl
theorem cells_hash : Try.prog.cellsOf 34 = 32 := by kernel_rfl

theorem item_of {H : Type} {enc : TypeId × Value → H} {W : World} {base : Nat} {sp : Nat → Bool} {held : Bool} {m b o : Nat} {cs : List Value} {y : DataW H × List MemPlace}
    (hc : ∀ j v, cs[j]? = some v → W.cell? ⟨b, o + j, none⟩ = some v) (h : DataW.trod enc Try.prog W base sp held m 36 cs = some y) : ∃ x, ItemAt W b o x := by
  obtain ⟨xs, n, _, _, _, hxl, hf⟩ := DataW.trod_struct Try.underlying36 h
  have hxl' : xs.length = 5 := hxl
  have g : ∀ i, i < 5 → ∃ q, xs[i]? = some q := fun i hi => ⟨_, List.getElem?_eq_getElem (by omega)⟩
  obtain ⟨q0, g0⟩ := g 0 (by omega)
  obtain ⟨q1, g1⟩ := g 1 (by omega)
  obtain ⟨q2, g2⟩ := g 2 (by omega)
  obtain ⟨q3, g3⟩ := g 3 (by omega)
  obtain ⟨q4, g4⟩ := g 4 (by omega)
  have f0 : DataW.trod enc Try.prog W base sp held n 3 ((cs.drop 0).take (Try.prog.cellsOf 3)) = xs[0]? := hf 0 _ rfl
  have f1 : DataW.trod enc Try.prog W base sp held n 3 ((cs.drop 1).take (Try.prog.cellsOf 3)) = xs[1]? := hf 1 _ rfl
  have f2 : DataW.trod enc Try.prog W base sp held n 22 ((cs.drop 2).take (Try.prog.cellsOf 22)) = xs[2]? := hf 2 _ rfl
  have f3 : DataW.trod enc Try.prog W base sp held n 34 ((cs.drop 3).take (Try.prog.cellsOf 34)) = xs[3]? := hf 3 _ rfl
  have f4 : DataW.trod enc Try.prog W base sp held n 9 ((cs.drop 35).take (Try.prog.cellsOf 9)) = xs[4]? := hf 4 _ rfl
  rw [cells_int, g0] at f0
  rw [cells_int, g1] at f1
  rw [cells_u64, g2] at f2
  rw [cells_hash, g3] at f3
  rw [cells_str, g4] at f4
  obtain ⟨k, e0, _, w0⟩ := DataW.trod_int Try.underlying3 f0
  obtain ⟨wd, e1, _, w1⟩ := DataW.trod_int Try.underlying3 f1
  obtain ⟨nn, e2, _, w2⟩ := DataW.trod_int Try.underlying22 f2
  obtain ⟨hh, e3, l3, _, _⟩ := trod_bytes Try.underlying34 Try.underlying5 cells_u8 f3 cells_hash
  obtain ⟨s, e4, _, w4⟩ := DataW.trod_string Try.underlying9 f4
  have b0 := bounds_i64 w0
  have b1 := bounds_i64 w1
  have b2 := bounds_u64 w2
  refine ⟨⟨k, wd, nn.toNat, hh, s.data.toList⟩, ?_, ?_, ?_, ?_, ?_, b0, b1, ?_, l3, ?_⟩
  · exact hc 0 _ (take_one e0)
  · exact hc 1 _ (take_one e1)
  · have := hc 2 _ (take_one e2)
    rw [this]
    simp; omega
  · intro j v hj
    rw [Nat.add_assoc]
    exact hc (3 + j) v (take_cells e3 j v hj)
  · exact hc 35 _ (take_one e4)
  · show nn.toNat < 18446744073709551616
    omega
  · show s.data.toList.length ≤ maxLen
    rw [size_list]; exact w4
end Go.Proofs.Ytkgmjphdocmodaa.Octet
