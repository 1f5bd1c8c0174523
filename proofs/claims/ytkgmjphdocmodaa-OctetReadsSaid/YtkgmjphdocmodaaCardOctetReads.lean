/- Whatever any bytes are read as, step by step, is the document's, or its error; with an error nothing is read: for every text and every list of items. -/
import Derived.Test.YtkgmjphdocmodaaLaw
import Derived.Test.YtkgmjphdocmodaaOpen
import Derived.Test.YtkgmjphdocmodaaOctetReads
import Derived.SizedLaws
namespace Go.Proofs.Ytkgmjphdocmodaa.octetReads
open Go.ChangeShapes Go.WideShapes Go.ChangeAt Go.RowKit Go.Proofs.Ytkgmjphdocmodaa.Law
open Go.ChangeMaps (open_string)
set_option maxRecDepth 100000 in
theorem contract (H : Type) (enc : TypeId × Value → H) (W : World) (base : Nat) (args : Array Value) (ds gs : List (DataW H)) (before : List MemPlace)
    (hval : ∀ (j : Nat) t v, Try.f6.params[j]? = some t → args[j]? = some v → Value.okWide Try.prog W .any base t v)
    (hW : DataW.Whole enc Try.prog Try.f6.params.toList Rows.octetReadsSpec.vars false W args.toList ds gs before)
    (_hsz : (DataW.weightsEach Try.prog (Try.f6.params.toList ++ (OpenSpec.ofChange Rows.octetReadsSpec).bare.plain.varTypes Try.prog) (ds ++ gs)).all (· ≤ reachBytes) = true)
    (_hS : W.ShapedOpen Try.prog) :
    Calls Try.prog 6 args W fun e W' => ∃ v, e = .returned v ∧ Rows.octetReadsSpec.post enc Try.prog Try.f6 false true false false W args v W' := by
  have hW' := hW
  obtain ⟨p, q, hA0, hV, rfl, hfz, hnd⟩ := hW
  have hA : DataW.TrodAll enc Try.prog W 0 (fun _ => true) true Try.f6.params.toList args.toList ds p := hA0
  rw [Try.params6] at hA hval
  obtain ⟨v0, vs0, d0, ds0, p0, q0, hargs, rfl, rfl, h0, r0⟩ := trodAll_cons hA
  obtain ⟨v1, vs1, d1, ds1, p1, q1, rfl, rfl, rfl, h1, r1⟩ := trodAll_cons r0
  obtain ⟨rfl, rfl, rfl⟩ := trodAll_nil r1
  obtain rfl : args = #[v0, v1] := by cases args; simp_all
  obtain ⟨rfl, rfl⟩ := trodVars_none hV
  clear hA hA0
  obtain ⟨s0, rfl, e0, _, hs0⟩ := open_string Try.underlying9 (hval 0 9 v0 rfl rfl) h0
  have hz0 : s0.size ≤ 140737488351232 := by subst e0; have := sized_string _hsz (j := 0) (t := 9) rfl rfl; simpa [reachBytes] using this
  obtain ⟨ao1, len1, cap1, rfl⟩ := okWide_slice Try.underlying32 (hval 1 32 v1 rfl rfl)
  have walk : Calls Try.prog 6 #[.string s0, .slice ao1 len1 cap1] W fun e W' => e = .returned (.bool true) ∧ Below W.heap.size W W' := by
    obtain ⟨hm, hrow⟩ := Mem.open_rows Try.underlying32 (by rw [Octet.cells_item]; decide) h1
    have hbel : ∀ r w', r = Ending.returned (.bool true) ∧ Mem.OnlyNew W w' → r = Ending.returned (.bool true) ∧ Below W.heap.size W w' := fun _ _ h => ⟨h.1, h.2.below (Nat.le_refl _) (fun _ _ h => h)⟩
    by_cases hL : 1000 < s0.size ∨ 100 < len1
    · exact (Octet.reads_long s0 ao1 len1 cap1 W hz0 hL (by unfold maxLen at hm; omega)).mono hbel
    · rw [← Mem.bstr_of s0]
      have hs : s0.data.toList.length ≤ 1000 := by rw [Mem.size_list]; omega
      by_cases hp : 0 < len1
      · obtain ⟨b, off, ho, hi⟩ := hrow hp
        have hit : ∀ i, i < len1 → ∃ x, Octet.ItemAt W b (off + i * 36) x := fun i hl => by
          obtain ⟨cs, m, y, _, hc, ht⟩ := hi i hl
          rw [Octet.cells_item] at hc
          exact Octet.item_of (fun j v hj => by rw [Nat.add_assoc]; exact hc j v hj) ht
        obtain ⟨xs, hxs⟩ := Go.Deep.choose_lt hit
        exact (Octet.reads_law s0.data.toList ao1 b off len1 cap1 (fun _ => ho) xs W hs (by omega) hxs).mono hbel
      · exact (Octet.reads_law s0.data.toList ao1 0 0 len1 cap1 (fun h => absurd h hp) (fun _ => ⟨0, 0, 0, [], []⟩) W hs (by omega) (fun i hi => absurd hi (by omega))).mono hbel
  refine walk.mono fun e W' ⟨he, hb⟩ => ?_
  subst he
  exact ⟨_, rfl, law_post laidOut (by kernel_rfl) (by kernel_rfl) Try.underlying4 rfl rfl hW' hb⟩

noncomputable def startWorld (os : Os) : World := World.holding Try.prog os ⟨#[], #[], []⟩
theorem reads (os : Os) {H : Type} (enc : TypeId × Value → H) : ∃ places, DataW.whole enc Try.prog ((startWorld os).forCall (fun _ _ => 0) ⟨#[], #[.string ⟨#[]⟩, .slice none 0 0], []⟩).memory Try.f6.params.toList Rows.octetReadsSpec.vars false (#[.string ⟨#[]⟩, .slice none 0 0] : Array Value).toList 8 = some ([.lit (.string []), .nil], [], places) :=
  ⟨[], by kernel_rfl⟩
set_option maxRecDepth 100000 in
theorem lifted (os : Os) (started : os.Started) (H : Type) (enc : TypeId × Value → H) (F : Stop.Interp) :
    ReturnsInHanded {} Try.checked os 6 .any ((OpenSpec.ofChange Rows.octetReadsSpec).preRow enc Try.prog Try.f6 Rows.octetReadsRow.domain false Rows.octetReadsRow.laid) (((OpenSpec.ofChange Rows.octetReadsSpec).at F).post enc Try.prog Try.f6 false true false false) := by
  obtain ⟨places, hx⟩ := reads os enc
  refine returnsInHanded_of_row (C := Try.checked) (s := OpenSpec.ofChange Rows.octetReadsSpec) own started (by kernel_rfl) Try.func6
    (witness_row_at (enc := enc) (C := Try.checked) false (startWorld os) #[.string ⟨#[]⟩, .slice none 0 0] rfl (by kernel_rfl) (by kernel_rfl) (by kernel_rfl)
      (OpenSpec.preRow_of_cond 8 hx (by kernel_rfl) (fun k hk => by cases hk) (by kernel_rfl) (laidMet_nil _ _))) ?_
  intro W base args ds gs before hval hW _ _ hsz hL hS _
  exact contract H enc W base args ds gs before hval hW hsz hS
theorem said : Rows.OctetReadsSaid :=
  OpenClaim.holds_of_cond 6 Try.f6 rfl rfl rfl rfl rfl rfl rfl ⟨rfl, rfl, rfl, rfl, rfl⟩ rfl rfl rfl rfl rfl (by kernel_rfl) Try.func6 (by kernel_rfl)
    (of_decide_eq_true (by kernel_rfl)) (by unfold Func.isWrapper; first | (rw [if_pos (by decide +kernel)]; kernel_rfl) | (rw [if_neg (by decide +kernel)]; exact ⟨rfl, rfl⟩))
    (fun os started H enc _ F => by rw [OpenClaim.pre_eq_preRow]; exact lifted os started H enc F)
end Go.Proofs.Ytkgmjphdocmodaa.octetReads
