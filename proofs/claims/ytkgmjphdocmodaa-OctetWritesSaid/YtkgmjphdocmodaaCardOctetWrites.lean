/- The bytes of any numbers, hashes and texts, one behind the other, are the document's, or its error: for every list of items. -/
import Derived.Test.YtkgmjphdocmodaaLaw
import Derived.Test.YtkgmjphdocmodaaOpen
import Derived.Test.YtkgmjphdocmodaaOctetWrites
import Derived.SizedLaws
namespace Go.Proofs.Ytkgmjphdocmodaa.octetWrites
open Go.ChangeShapes Go.WideShapes Go.ChangeAt Go.RowKit Go.Proofs.Ytkgmjphdocmodaa.Law
open Go.ChangeMaps (open_string)
set_option maxRecDepth 100000 in
theorem contract (H : Type) (enc : TypeId × Value → H) (W : World) (base : Nat) (args : Array Value) (ds gs : List (DataW H)) (before : List MemPlace)
    (hval : ∀ (j : Nat) t v, Try.f4.params[j]? = some t → args[j]? = some v → Value.okWide Try.prog W .any base t v)
    (hW : DataW.Whole enc Try.prog Try.f4.params.toList Rows.octetWritesSpec.vars false W args.toList ds gs before)
    (_hsz : (DataW.weightsEach Try.prog (Try.f4.params.toList ++ (OpenSpec.ofChange Rows.octetWritesSpec).bare.plain.varTypes Try.prog) (ds ++ gs)).all (· ≤ reachBytes) = true)
    (_hS : W.ShapedOpen Try.prog) :
    Calls Try.prog 4 args W fun e W' => ∃ v, e = .returned v ∧ Rows.octetWritesSpec.post enc Try.prog Try.f4 false true false false W args v W' := by
  have hW' := hW
  obtain ⟨p, q, hA0, hV, rfl, hfz, hnd⟩ := hW
  have hA : DataW.TrodAll enc Try.prog W 0 (fun _ => true) true Try.f4.params.toList args.toList ds p := hA0
  rw [Try.params4] at hA hval
  obtain ⟨v0, vs0, d0, ds0, p0, q0, hargs, rfl, rfl, h0, r0⟩ := trodAll_cons hA
  obtain ⟨rfl, rfl, rfl⟩ := trodAll_nil r0
  obtain rfl : args = #[v0] := by cases args; simp_all
  obtain ⟨rfl, rfl⟩ := trodVars_none hV
  clear hA hA0
  obtain ⟨ao0, len0, cap0, rfl⟩ := okWide_slice Try.underlying32 (hval 0 32 v0 rfl rfl)
  have walk : Calls Try.prog 4 #[.slice ao0 len0 cap0] W fun e W' => e = .returned (.bool true) ∧ Below W.heap.size W W' := by
    obtain ⟨hm, hrow⟩ := Mem.open_rows Try.underlying32 (by rw [Octet.cells_item]; decide) h0
    have hbel : ∀ r w', r = Ending.returned (.bool true) ∧ Mem.OnlyNew W w' → r = Ending.returned (.bool true) ∧ Below W.heap.size W w' := fun _ _ h => ⟨h.1, h.2.below (Nat.le_refl _) (fun _ _ h => h)⟩
    by_cases hL : 100 < len0
    · exact (Octet.writes_long ao0 len0 cap0 W hL (by unfold maxLen at hm; omega)).mono hbel
    · by_cases hp : 0 < len0
      · obtain ⟨b, off, ho, hi⟩ := hrow hp
        have hit : ∀ i, i < len0 → ∃ x, Octet.ItemAt W b (off + i * 36) x := fun i hl => by
          obtain ⟨cs, m, y, _, hc, ht⟩ := hi i hl
          rw [Octet.cells_item] at hc
          exact Octet.item_of (fun j v hj => by rw [Nat.add_assoc]; exact hc j v hj) ht
        obtain ⟨xs, hxs⟩ := Go.Deep.choose_lt hit
        exact (Octet.writes_law ao0 b off len0 cap0 (fun _ => ho) xs W (by omega) hxs).mono hbel
      · exact (Octet.writes_law ao0 0 0 len0 cap0 (fun h => absurd h hp) (fun _ => ⟨0, 0, 0, [], []⟩) W (by omega) (fun i hi => absurd hi (by omega))).mono hbel
  refine walk.mono fun e W' ⟨he, hb⟩ => ?_
  subst he
  exact ⟨_, rfl, law_post laidOut (by kernel_rfl) (by kernel_rfl) Try.underlying4 rfl rfl hW' hb⟩

noncomputable def startWorld (os : Os) : World := World.holding Try.prog os ⟨#[], #[], []⟩
theorem reads (os : Os) {H : Type} (enc : TypeId × Value → H) : ∃ places, DataW.whole enc Try.prog ((startWorld os).forCall (fun _ _ => 0) ⟨#[], #[.slice none 0 0], []⟩).memory Try.f4.params.toList Rows.octetWritesSpec.vars false (#[.slice none 0 0] : Array Value).toList 8 = some ([.nil], [], places) :=
  ⟨[], by kernel_rfl⟩
set_option maxRecDepth 100000 in
theorem lifted (os : Os) (started : os.Started) (H : Type) (enc : TypeId × Value → H) (F : Stop.Interp) :
    ReturnsInHanded {} Try.checked os 4 .any ((OpenSpec.ofChange Rows.octetWritesSpec).preRow enc Try.prog Try.f4 Rows.octetWritesRow.domain false Rows.octetWritesRow.laid) (((OpenSpec.ofChange Rows.octetWritesSpec).at F).post enc Try.prog Try.f4 false true false false) := by
  obtain ⟨places, hx⟩ := reads os enc
  refine returnsInHanded_of_row (C := Try.checked) (s := OpenSpec.ofChange Rows.octetWritesSpec) own started (by kernel_rfl) Try.func4
    (witness_row_at (enc := enc) (C := Try.checked) false (startWorld os) #[.slice none 0 0] rfl (by kernel_rfl) (by kernel_rfl) (by kernel_rfl)
      (OpenSpec.preRow_of_cond 8 hx (by kernel_rfl) (fun k hk => by cases hk) (by kernel_rfl) (laidMet_nil _ _))) ?_
  intro W base args ds gs before hval hW _ _ hsz hL hS _
  exact contract H enc W base args ds gs before hval hW hsz hS
theorem said : Rows.OctetWritesSaid :=
  OpenClaim.holds_of_cond 4 Try.f4 rfl rfl rfl rfl rfl rfl rfl ⟨rfl, rfl, rfl, rfl, rfl⟩ rfl rfl rfl rfl rfl (by kernel_rfl) Try.func4 (by kernel_rfl)
    (of_decide_eq_true (by kernel_rfl)) (by unfold Func.isWrapper; first | (rw [if_pos (by decide +kernel)]; kernel_rfl) | (rw [if_neg (by decide +kernel)]; exact ⟨rfl, rfl⟩))
    (fun os started H enc _ F => by rw [OpenClaim.pre_eq_preRow]; exact lifted os started H enc F)
end Go.Proofs.Ytkgmjphdocmodaa.octetWrites
