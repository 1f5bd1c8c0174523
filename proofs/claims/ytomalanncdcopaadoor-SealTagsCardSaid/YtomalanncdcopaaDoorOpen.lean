/- Arguments that are arrays of bytes by value: opened. -/
import Derived.Test.YtomalanncdcopaaDoorMem
import Derived.WideKeyArr2
import Derived.ChangeShapes
import Derived.OpenShut
import Derived.Deep.Slices
import Derived.ChangeArms
set_option linter.unusedSimpArgs false
set_option linter.unusedVariables false
namespace Go.Proofs.YtomalanncdcopaaDoor.Mem
open Go.RowKit Go.ChangeShapes Go.WideShapes

section
variable {H : Type} {enc : TypeId × Value → H} {P : Program} {t e : TypeId} {n : Nat} {W : World} {base : Nat} {sp : Nat → Bool} {held : Bool}
theorem mapM_bytes (he : P.underlying e = some (.int .u8)) {m : Nat} {cs : List Value} : ∀ (L : List Nat) (xs : List (DataW H × List MemPlace)),
    L.mapM (fun i => DataW.trod enc P W base sp held m e ((cs.drop (i * 1)).take 1)) = some xs →
    ∃ l : List UInt8, L.map (fun i => (cs.drop i).take 1) = (cellsOf l).map (fun u => [u]) ∧ (∀ x ∈ xs, x.2 = []) ∧ xs.length = L.length ∧ xs.map (·.1) = l.map (fun c => .lit (.int .u8 (c.toNat : Int)))
  | [], xs, h => by
    simp at h
    subst h
    exact ⟨[], rfl, by simp, rfl, rfl⟩
  | i :: L, xs, h => by
    rw [List.mapM_cons] at h
    simp only [bind, Option.bind_eq_some_iff, pure, Option.some.injEq] at h
    obtain ⟨y, hy, ys, hys, rfl⟩ := h
    obtain ⟨l, h1, h2, h3, h4⟩ := mapM_bytes he L ys hys
    obtain ⟨a, ea, rfl, wa⟩ := DataW.trod_int he hy
    have hb := bounds_u8 wa
    rw [Nat.mul_one] at ea
    refine ⟨UInt8.ofNat a.toNat :: l, ?_, ?_, by simp [h3], ?_⟩
    · have e1 : ((UInt8.ofNat a.toNat).toNat : Int) = a := by simp; omega
      simp only [List.map_cons, h1, ea]
      simp [cellsOf]; omega
    · intro x hx
      rcases List.mem_cons.1 hx with rfl | hx
      · rfl
      · exact h2 x hx
    · simp only [List.map_cons, h4]
      simp; omega

theorem range_takes : ∀ (cs us : List Value) , us.length = cs.length → (List.range cs.length).map (fun i => (cs.drop i).take 1) = us.map (fun u => [u]) → cs = us := by
  intro cs us hl h
  apply List.ext_getElem hl.symm
  intro i h1 h2
  have := congrArg (fun l => l[i]?) h
  simp only [List.getElem?_map, List.getElem?_range h1, Option.map_some, List.getElem?_eq_getElem h2, Option.some.injEq] at this
  rw [List.drop_eq_getElem_cons h1, List.take_succ_cons, List.take_zero] at this
  exact (List.cons.inj this).1

/-- An array of bytes, by value, among the arguments. -/
theorem trod_bytes (hu : P.underlying t = some (.array n e)) (he : P.underlying e = some (.int .u8)) (hc : P.cellsOf e = 1) {fuel : Nat} {cs : List Value} {x : DataW H × List MemPlace} (h : DataW.trod enc P W base sp held fuel t cs = some x) (hct : P.cellsOf t = n) :
    ∃ l : List UInt8, cs = cellsOf l ∧ l.length = n ∧ x.2 = [] ∧ x.1 = .agg (l.map fun c => .lit (.int .u8 (c.toNat : Int))) := by
  cases fuel with
  | zero => simp [DataW.trod] at h
  | succ m =>
    rw [DataW.trod_step] at h
    unfold DataW.trodStep at h
    simp only [hu, hc] at h
    split at h
    · rename_i hl
      rw [hct] at hl
      simp only [Option.map_eq_some_iff] at h
      obtain ⟨ys, hy, rfl⟩ := h
      obtain ⟨l, h1, h2, h3, h4⟩ := mapM_bytes he _ ys hy
      have hll : l.length = n := by
        have := congrArg List.length h1
        simpa [cellsOf] using this.symm
      refine ⟨l, ?_, hll, ?_, ?_⟩
      · subst hl
        exact range_takes cs (cellsOf l) (by rw [cellsOf_length]; exact hll) h1
      · simp only [List.flatMap_eq_nil_iff]
        exact h2
      · rw [← h4]
    · cases h

theorem open_bytes (hu : P.underlying t = some (.array n e)) (he : P.underlying e = some (.int .u8)) (hc : P.cellsOf e = 1) (hct : P.cellsOf t = n) {r : Reach} {b0 : Nat} {v : Value} {d : DataW H} {ps : List MemPlace}
    (hval : Value.okWide P W r b0 t v) (hd : DataW.Trod enc P W base sp held t v d ps) : ∃ l : List UInt8, v = .agg (cellsOf l).toArray ∧ l.length = n ∧ ps = [] := by
  simp only [Value.okWide, hu] at hval
  obtain ⟨cs, rfl, h2, _⟩ := hval
  obtain ⟨fuel, hf⟩ := hd
  obtain ⟨l, h1, h3, h4, _⟩ := trod_bytes hu he hc hf hct
  refine ⟨l, ?_, h3, h4⟩
  simp only [Value.cells] at h1
  rw [← h1]

/-- A slice of rows among the arguments: each row's cells, and that they read. -/
theorem open_rows (ht : P.underlying t = some (.slice e)) (hpos : 0 < P.cellsOf e) {ao : Option Addr} {len cap : Nat} {d : DataW H} {ps : List MemPlace}
    (hd : DataW.Trod enc P W base sp held t (.slice ao len cap) d ps) :
    len ≤ maxLen ∧ (0 < len → ∃ b off, ao = some ⟨b, off, none⟩ ∧ ∀ i, i < len → ∃ cs m y, cs.length = P.cellsOf e ∧ (∀ j v, cs[j]? = some v → W.cell? ⟨b, off + (i * P.cellsOf e + j), none⟩ = some v) ∧ DataW.trod enc P W base sp held m e cs = some y) := by
  obtain ⟨fuel, hf⟩ := hd
  rcases Go.Deep.open_slice ht hf with ⟨hc, _⟩ | ⟨a, len', cap', m, n, D, Pl, hc, _, hl, hm, hmm, _, hx⟩
  · simp [Value.cells] at hc
    obtain ⟨rfl, rfl, rfl⟩ := hc
    exact ⟨by simp, fun h => by omega⟩
  · simp [Value.cells] at hc
    obtain ⟨rfl, rfl, rfl⟩ := hc
    refine ⟨by omega, fun h0 => ?_⟩
    have hlm : len ≤ m := by rw [hmm]; split <;> omega
    obtain ⟨b, off, spot⟩ := a
    have hspot : spot = none := by
      obtain ⟨cs, h1, _⟩ := hx 0 (by omega)
      obtain ⟨_, h2, h3⟩ := World.cells?_some h1
      have h4 := h3 0 hpos
      rw [List.getElem?_eq_getElem (by omega)] at h4
      simpa [Addr.add] using World.cell?_spot h4
    subst hspot
    refine ⟨b, off, rfl, fun i hi => ?_⟩
    obtain ⟨cs, h1, h2⟩ := hx i (by omega)
    obtain ⟨_, h3, h4⟩ := World.cells?_some h1
    refine ⟨cs, n, _, h3, fun j v hj => ?_, h2⟩
    have hjl : j < P.cellsOf e := by rw [← h3]; exact (List.getElem?_eq_some_iff.1 hj).1
    have := h4 j hjl
    rw [hj, add_plain, add_plain] at this
    rw [← Nat.add_assoc]
    exact this
end
end Go.Proofs.YtomalanncdcopaaDoor.Mem
