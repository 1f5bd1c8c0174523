/- Arguments that are arrays of words of 32 bits by value: opened. -/
import Derived.Test.YtgcambjoeaijkaaDoorOpen
namespace Go.Proofs.YtgcambjoeaijkaaDoor.Mem
open Go.RowKit Go.ChangeShapes Go.WideShapes

section
variable {H : Type} {enc : TypeId × Value → H} {P : Program} {t e : TypeId} {n : Nat} {W : World} {base : Nat} {sp : Nat → Bool} {held : Bool}
theorem mapM_words (he : P.underlying e = some (.int .u32)) {m : Nat} {cs : List Value} : ∀ (L : List Nat) (xs : List (DataW H × List MemPlace)),
    L.mapM (fun i => DataW.trod enc P W base sp held m e ((cs.drop (i * 1)).take 1)) = some xs →
    ∃ l : List (BitVec 32), L.map (fun i => (cs.drop i).take 1) = (l.map fun x => [Value.int .u32 (x.toNat : Int)]) ∧ (∀ x ∈ xs, x.2 = [])
  | [], xs, h => by
    simp at h
    subst h
    exact ⟨[], rfl, by simp⟩
  | i :: L, xs, h => by
    rw [List.mapM_cons] at h
    simp only [bind, Option.bind_eq_some_iff, pure, Option.some.injEq] at h
    obtain ⟨y, hy, ys, hys, rfl⟩ := h
    obtain ⟨l, h1, h2⟩ := mapM_words he L ys hys
    obtain ⟨a, ea, rfl, wa⟩ := DataW.trod_int he hy
    have hb := bounds_u32 wa
    rw [Nat.mul_one] at ea
    refine ⟨BitVec.ofNat 32 a.toNat :: l, ?_, ?_⟩
    · have e1 : ((BitVec.ofNat 32 a.toNat).toNat : Int) = a := by simp; omega
      simp only [List.map_cons, h1, ea, e1]
    · intro x hx
      rcases List.mem_cons.1 hx with rfl | hx
      · rfl
      · exact h2 x hx

/-- An array of words, by value, among the arguments. -/
theorem open_words (hu : P.underlying t = some (.array n e)) (he : P.underlying e = some (.int .u32)) (hc : P.cellsOf e = 1) (hct : P.cellsOf t = n) {r : Reach} {b0 : Nat} {v : Value} {d : DataW H} {ps : List MemPlace}
    (hval : Value.okWide P W r b0 t v) (hd : DataW.Trod enc P W base sp held t v d ps) : ∃ l : List (BitVec 32), v = .agg (l.map fun x => Value.int .u32 (x.toNat : Int)).toArray ∧ l.length = n ∧ ps = [] := by
  simp only [Value.okWide, hu] at hval
  obtain ⟨cs, rfl, h2, _⟩ := hval
  obtain ⟨fuel, h⟩ := hd
  cases fuel with
  | zero => simp [DataW.trod] at h
  | succ m =>
    rw [DataW.trod_step] at h
    unfold DataW.trodStep at h
    simp only [hu, hc] at h
    split at h
    · rename_i hl
      rw [hct] at hl
      simp only [Option.map_eq_some_iff] at h
      obtain ⟨ys, hy, he2⟩ := h
      obtain ⟨l, h1, h3⟩ := mapM_words he _ ys hy
      have hll : l.length = n := by
        have := congrArg List.length h1
        simpa using this.symm
      refine ⟨l, ?_, hll, ?_⟩
      · subst hl
        have this := range_takes (Value.agg cs).cells.toList (l.map fun x => Value.int .u32 (x.toNat : Int)) (by rw [List.length_map]; exact hll) (h1.trans (by rw [List.map_map]; rfl))
        simp only [Value.cells] at this
        rw [← this]
      · have := congrArg Prod.snd he2
        simp only at this
        rw [← this]
        simp only [List.flatMap_eq_nil_iff]
        exact h3
    · cases h
end
end Go.Proofs.YtgcambjoeaijkaaDoor.Mem
