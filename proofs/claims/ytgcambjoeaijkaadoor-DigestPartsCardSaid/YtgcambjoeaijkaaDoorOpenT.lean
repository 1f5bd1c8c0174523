/- An argument that is a slice of strings: opened. -/
import Derived.Test.YtgcambjoeaijkaaDoorOpen
import Derived.SliceStrings
namespace Go.Proofs.YtgcambjoeaijkaaDoor.Mem
open Go.RowKit Go.ChangeShapes Go.WideShapes

section
variable {H : Type} {enc : TypeId × Value → H} {P : Program} {t e : TypeId} {W : World} {base : Nat} {sp : Nat → Bool} {held : Bool}
theorem open_texts (ht : P.underlying t = some (.slice e)) (he : P.underlying e = some .string) (hc : P.cellsOf e = 1) {ao : Option Addr} {len cap : Nat} {d : DataW H} {ps : List MemPlace}
    (hd : DataW.Trod enc P W base sp held t (.slice ao len cap) d ps) :
    0 < len → ∃ b off, ao = some ⟨b, off, none⟩ ∧ ∃ ss : Nat → List UInt8, ∀ i, i < len → W.cell? ⟨b, off + i, none⟩ = some (.string (bstr (ss i))) := by
  obtain ⟨fuel, hf⟩ := hd
  rcases open_strings ht he hc hf with ⟨hcs, _⟩ | ⟨a, len', cap', ss, hcs, _, hl, hm, hz, _, hcell, hsz⟩
  · simp [Value.cells] at hcs
    obtain ⟨rfl, rfl, rfl⟩ := hcs
    exact fun h => by omega
  · simp [Value.cells] at hcs
    obtain ⟨rfl, rfl, rfl⟩ := hcs
    intro h0
    have hlm : len ≤ ss.length := by rw [hz]; split <;> omega
    obtain ⟨b, off, spot⟩ := a
    have hspot : spot = none := by
      have h4 := hcell 0 (by omega)
      simpa [Addr.add] using World.cell?_spot h4
    subst hspot
    refine ⟨b, off, rfl, fun i => (ss.getD i ByteArray.empty).data.toList, fun i hi => ?_⟩
    have h1 := hcell i (by omega)
    rw [add_plain] at h1
    rw [bstr_of]
    exact h1
end
end Go.Proofs.YtgcambjoeaijkaaDoor.Mem
