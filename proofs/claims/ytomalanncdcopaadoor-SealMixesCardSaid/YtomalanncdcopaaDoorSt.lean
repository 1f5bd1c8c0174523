/- Memory as a list of things that a call holds (rows, slices, objects): what each operation makes of it. Of no program. -/
import Derived.Test.YtomalanncdcopaaDoorLinW
import Derived.Test.YtomalanncdcopaaDoorLin2W
import Derived.Test.YtomalanncdcopaaDoorConv
import Derived.KernelRfl
set_option linter.unusedSimpArgs false
set_option linter.unusedVariables false
namespace Go.Proofs.YtomalanncdcopaaDoor.St
open Go Go.RowKit Go.Proofs.YtomalanncdcopaaDoor.Mem

attribute [simp] cellsOf_length
/-- Something held: a row of cells from its block's head on, a slice, an object, or anything else that hangs on some blocks alone. -/
inductive Ent where
  | row (b : Nat) (cs : List Value)
  | sl (size : Nat) (ao : Option Addr) (n cap : Nat) (xs : List Value) (g : Option Nat)
  | obj (b : Nat) (o : Obj)
  | any (fp : List Nat) (p : World → Prop) (hst : ∀ (S : Nat → Prop) w w', p w → Chgd S w w' → (∀ k ∈ fp, ¬ S k) → (∀ k ∈ fp, k < w.heap.size) → p w')
def Ent.fp : Ent → List Nat
  | .row b _ => [b]
  | .sl _ _ _ _ _ g => g.toList
  | .obj b _ => [b]
  | .any fp _ _ => fp
def Ent.holds (w : World) : Ent → Prop
  | .row b cs => Row w b 0 cs
  | .sl size ao n cap xs g => Srow w size ao n cap xs g
  | .obj b o => w.heap[b]? = some o
  | .any _ p _ => p w
theorem Ent.keep {w w' : World} {S : Nat → Prop} {e : Ent} (h : e.holds w) (hc : Chgd S w w') (hs : ∀ k ∈ e.fp, k < w.heap.size ∧ ¬ S k) : e.holds w' := by
  cases e with
  | row b cs => exact Row.keep h hc (hs b (by simp [Ent.fp])).2
  | sl size ao n cap xs g => exact Srow.keep h hc (fun k hk => (hs k (by simp [Ent.fp, hk])).2)
  | obj b o =>
    obtain ⟨h1, h2⟩ := hs b (by simp [Ent.fp])
    exact (hc.block b h1 h2).trans h
  | any fp p hst => exact hst S w w' h hc (fun k hk => (hs k hk).2) (fun k hk => (hs k hk).1)

/-- What a call holds at w, that began at w0 and may change, of old memory, the blocks S alone. -/
structure St (w0 w : World) (S : List Nat) (E : List Ent) : Prop where
  chg : Chgd (fun k => k ∈ S) w0 w
  hold : ∀ e ∈ E, e.holds w
  lt : ∀ e ∈ E, ∀ k ∈ e.fp, k < w.heap.size
  own : ∀ e ∈ E, ∀ k ∈ e.fp, k ∈ S ∨ w0.heap.size ≤ k
  apart : E.Pairwise fun e f => ∀ k ∈ e.fp, k ∉ f.fp

theorem St.nil (w : World) (S : List Nat) : St w w S [] := ⟨Chgd.refl _ _, by simp, by simp, by simp, .nil⟩
/-- One more thing that is held from the beginning. -/
theorem St.old {w : World} {S : List Nat} {E : List Ent} (h : St w w S E) (e : Ent) (he : e.holds w) (hl : ∀ k ∈ e.fp, k < w.heap.size) (ho : ∀ k ∈ e.fp, k ∈ S) (ha : ∀ f ∈ E, ∀ k ∈ e.fp, k ∉ f.fp) : St w w S (e :: E) :=
  ⟨h.chg, by simpa using ⟨he, h.hold⟩, by simpa using ⟨hl, h.lt⟩, by simpa using ⟨fun k hk => .inl (ho k hk), h.own⟩, .cons ha h.apart⟩
theorem St.only {w0 w : World} {E : List Ent} (h : St w0 w [] E) : OnlyNew w0 w := h.chg.mono (fun _ _ h => by simp at h)
/-- Behind a call that makes new memory alone. -/
theorem St.quiet {w0 w w' : World} {S : List Nat} {E : List Ent} (h : St w0 w S E) (hc : OnlyNew w w') : St w0 w' S E :=
  ⟨h.chg.trans hc (fun _ _ h => h.elim), fun e he => Ent.keep (h.hold e he) hc (fun k hk => ⟨h.lt e he k hk, fun h => h⟩),
    fun e he k hk => Nat.lt_of_lt_of_le (h.lt e he k hk) hc.size, h.own, h.apart⟩
theorem St.drew {w0 w : World} {S : List Nat} {E : List Ent} (h : St w0 w S E) : St w0 w.drew S E := h.quiet (Chgd.refl _ w).drew
/-- A new thing. -/
theorem St.new {w0 w w' : World} {S : List Nat} {E : List Ent} (h : St w0 w S E) (hc : OnlyNew w w') (e : Ent) (he : e.holds w') (hl : ∀ k ∈ e.fp, k < w'.heap.size) (hn : ∀ k ∈ e.fp, w.heap.size ≤ k) : St w0 w' S (e :: E) := by
  have h' := h.quiet hc
  refine ⟨h'.chg, by simpa using ⟨he, h'.hold⟩, by simpa using ⟨hl, h'.lt⟩, ?_, .cons (fun f hf k hk hkf => ?_) h'.apart⟩
  · have := h.chg.size
    simpa using ⟨fun k hk => .inr (Nat.le_trans this (hn k hk)), h'.own⟩
  · have h1 := h.lt f hf k hkf
    have h2 := hn k hk
    omega
theorem pairwise_set {E : List Ent} (h : E.Pairwise fun e f => ∀ k ∈ e.fp, k ∉ f.fp) (i : Nat) (e' : Ent) (hd : ∀ (j : Nat) (f : Ent), j ≠ i → E[j]? = some f → ∀ k ∈ e'.fp, k ∉ f.fp) : (E.set i e').Pairwise fun e f => ∀ k ∈ e.fp, k ∉ f.fp := by
  rw [List.pairwise_iff_getElem] at h ⊢
  intro a b ha hb hab k hk
  rw [List.length_set] at ha hb
  rw [List.getElem_set] at hk ⊢
  by_cases h1 : i = a
  · subst h1
    rw [if_neg (by omega)]
    rw [if_pos rfl] at hk
    exact hd b _ (by omega) (List.getElem?_eq_getElem hb) k hk
  · rw [if_neg h1] at hk
    by_cases h2 : i = b
    · subst h2
      rw [if_pos rfl]
      intro hk2
      exact hd a _ (by omega) (List.getElem?_eq_getElem ha) k hk2 hk
    · rw [if_neg h2]
      exact h a b ha hb hab k hk
theorem apart_get {E : List Ent} (h : E.Pairwise fun e f => ∀ k ∈ e.fp, k ∉ f.fp) {i j : Nat} {e f : Ent} (hij : i ≠ j) (hi : E[i]? = some e) (hj : E[j]? = some f) : ∀ k ∈ e.fp, k ∉ f.fp := by
  obtain ⟨a, rfl⟩ := List.getElem?_eq_some_iff.1 hi
  obtain ⟨b, rfl⟩ := List.getElem?_eq_some_iff.1 hj
  rw [List.pairwise_iff_getElem] at h
  intro k hk hk2
  by_cases hlt : i < j
  · exact h i j a b hlt k hk hk2
  · exact h j i b a (by omega) k hk2 hk
/-- One thing was changed (and may have come to lie in new memory). -/
theorem St.upd {w0 w w' : World} {S : List Nat} {E : List Ent} (h : St w0 w S E) (i : Nat) {e : Ent} (hi : E[i]? = some e) (e' : Ent) (hc : Chgd (fun k => k ∈ e.fp) w w') (he : e'.holds w') (hl : ∀ k ∈ e'.fp, k < w'.heap.size) (hf : ∀ k ∈ e'.fp, k ∈ e.fp ∨ w.heap.size ≤ k) :
    St w0 w' S (E.set i e') := by
  have hm : e ∈ E := List.mem_of_getElem? hi
  have other : ∀ (j : Nat) (f : Ent), j ≠ i → E[j]? = some f → f.holds w' := fun j f hj hf' =>
    Ent.keep (h.hold f (List.mem_of_getElem? hf')) hc (fun k hk => ⟨h.lt f (List.mem_of_getElem? hf') k hk, fun hke => apart_get h.apart hj hf' hi k hk hke⟩)
  have each : ∀ (p : Ent → Prop), p e' → (∀ (j : Nat) (f : Ent), j ≠ i → E[j]? = some f → p f) → ∀ f ∈ E.set i e', p f := by
    intro p h1 h2 f hf'
    obtain ⟨j, hj⟩ := List.mem_iff_getElem?.1 hf'
    by_cases hji : i = j
    · subst hji
      have hlt : i < E.length := (List.getElem?_eq_some_iff.1 hi).1
      rw [List.getElem?_set_self hlt] at hj
      cases hj
      exact h1
    · rw [List.getElem?_set_ne hji] at hj
      exact h2 j f (fun h => hji h.symm) hj
  refine ⟨h.chg.trans hc (fun j hj hje => ?_), each _ he other, each _ hl (fun j f _ hf' k hk => Nat.lt_of_lt_of_le (h.lt f (List.mem_of_getElem? hf') k hk) hc.size), each _ (fun k hk => ?_) (fun j f _ hf' => h.own f (List.mem_of_getElem? hf')), pairwise_set h.apart i e' (fun j f hj hf' k hk hkf => ?_)⟩
  · rcases h.own e hm j hje with h1 | h1
    · exact h1
    · omega
  · rcases hf k hk with h1 | h1
    · exact h.own e hm k h1
    · exact .inr (Nat.le_trans h.chg.size h1)
  · rcases hf k hk with h1 | h1
    · exact apart_get h.apart hj hf' hi k hkf h1
    · have := h.lt f (List.mem_of_getElem? hf') k hkf
      omega
theorem St.row {w0 w : World} {S : List Nat} {E : List Ent} (h : St w0 w S E) (i : Nat) {b : Nat} {cs : List Value} (hi : E[i]? = some (.row b cs)) : Row w b 0 cs := h.hold _ (List.mem_of_getElem? hi)
theorem St.srow {w0 w : World} {S : List Nat} {E : List Ent} (h : St w0 w S E) (i : Nat) {size : Nat} {ao : Option Addr} {n cap : Nat} {xs : List Value} {g : Option Nat} (hi : E[i]? = some (.sl size ao n cap xs g)) : Srow w size ao n cap xs g := h.hold _ (List.mem_of_getElem? hi)
theorem St.obj {w0 w : World} {S : List Nat} {E : List Ent} (h : St w0 w S E) (i : Nat) {b : Nat} {o : Obj} (hi : E[i]? = some (.obj b o)) : w.heap[b]? = some o := h.hold _ (List.mem_of_getElem? hi)
/-- Some of what is held is let go of. -/
theorem St.sub {w0 w : World} {S : List Nat} {E E' : List Ent} (h : St w0 w S E) (hs : E'.Sublist E) : St w0 w S E' :=
  ⟨h.chg, fun e he => h.hold e (hs.subset he), fun e he => h.lt e (hs.subset he), fun e he => h.own e (hs.subset he), h.apart.sublist hs⟩
/-- Rows of one block are changed by a write into them. -/
theorem St.wrote {w0 w w' : World} {S : List Nat} {E : List Ent} (h : St w0 w S E) (i : Nat) {b : Nat} {cs : List Value} (hi : E[i]? = some (.row b cs)) (cs' : List Value) (hc : Chgd (fun k => k = b) w w') (hr : Row w' b 0 cs') : St w0 w' S (E.set i (.row b cs')) := by
  have hlt : b < w.heap.size := h.lt _ (List.mem_of_getElem? hi) b (by simp [Ent.fp])
  refine h.upd i hi (.row b cs') (hc.mono (fun j _ hj => by simpa [Ent.fp] using hj)) hr ?_ ?_
  · intro k hk
    simp only [Ent.fp, List.mem_singleton] at hk
    subst hk
    exact Nat.lt_of_lt_of_le hlt hc.size
  · intro k hk
    exact .inl hk

section
variable {P : Program} {w0 w : World} {S : List Nat} {E : List Ent} {ρ : Operand → Value} {o : Oper}
/-- The operation yields a value, in a world, of which K is true (kept shut). -/
structure gives (P : Program) (K : Value → World → Prop) (r : Result Next) : Prop where
  out : Lin2.gives P K r
theorem gives.mono {P : Program} {K K' : Value → World → Prop} {r : Result Next} (hr : gives P K r) (h : ∀ v w, K v w → K' v w) : gives P K' r := ⟨Lin2.gives_mono h hr.out⟩

/-! ### Steps of a plain region -/
/-- What is still to be shown of a plain region's operations (kept shut: else each step's goal is reckoned out). -/
structure WL (P : Program) (ops : Array Oper) (Q : Exit → Act → World → Prop) (l : List Oper) (a : Act) (w : World) : Prop where
  out : wpList P ops Q l a w
section
variable {ops : Array Oper} {rest : List Oper} {a : Act} {Q : Exit → Act → World → Prop}
theorem rgn {l : List Oper} {id : Nat} (h : WL P l.toArray Q l a w) : (Code.region id l.toArray false).wp P Q a w := wp_region_lit h.out
theorem sv (v : Value) (hg : o.guard = none) (h : (execOp a.eval o).run P w = .ok (.value v) w) (k : WL P ops Q rest (a.put o.dst v) w) : WL P ops Q (o :: rest) a w := by
  refine ⟨wpList_plain hg fun _ hK => ?_⟩
  unfold Oper.wp
  rw [h]
  exact hK _ _ k.out
theorem sg {K : Value → World → Prop} (hg : o.guard = none) (h : gives P K ((execOp a.eval o).run P w)) (k : ∀ v w', K v w' → WL P ops Q rest (a.put o.dst v) w') : WL P ops Q (o :: rest) a w := by
  refine ⟨wpList_plain hg fun _ hK => ?_⟩
  unfold Oper.wp
  exact Lin2.upon_of_gives h.out (fun v w' hv => hK _ _ (k v w' hv).out)
theorem svq (v : Value) (hw : Region.wanted o (yielded ops a.tmps) = true) (h : (execOp a.eval o).run P w = .ok (.value v) w) (k : WL P ops Q rest (a.put o.dst v) w) : WL P ops Q (o :: rest) a w := by
  refine ⟨wpList_step fun K hK => ?_⟩
  rw [if_pos hw]
  unfold Oper.wp
  rw [h]
  exact hK _ _ k.out
theorem sgq {K : Value → World → Prop} (hw : Region.wanted o (yielded ops a.tmps) = true) (h : gives P K ((execOp a.eval o).run P w)) (k : ∀ v w', K v w' → WL P ops Q rest (a.put o.dst v) w') : WL P ops Q (o :: rest) a w := by
  refine ⟨wpList_step fun K' hK => ?_⟩
  rw [if_pos hw]
  unfold Oper.wp
  exact Lin2.upon_of_gives h.out (fun v w' hv => hK _ _ (k v w' hv).out)
theorem skip (hw : Region.wanted o (yielded ops a.tmps) = false) (k : WL P ops Q rest (a.put o.dst undef) w) : WL P ops Q (o :: rest) a w := by
  refine ⟨wpList_step fun K hK => ?_⟩
  rw [hw, if_neg (by simp)]
  exact hK _ _ k.out
end

theorem g_call {F : FuncId} {A : Array Value} {R : Ending → World → Prop} {K : Value → World → Prop} (hop : (execOp ρ o).run P w = .ok (.enter F A) w) (hc : Calls P F A w R) (h : ∀ r w', R r w' → ∃ v, r = .returned v ∧ K v w') :
    gives P K ((execOp ρ o).run P w) := by
  refine ⟨?_⟩
  rw [hop]
  exact Calls.mono hc h

/-! ### Memory -/
theorem new_row {w0 w : World} {S : List Nat} {E : List Ent} (h : St w0 w S E) (cs : List Value) (t : TypeId) : St w0 (w.alloc (.cells cs.toArray t)) S (.row w.heap.size cs :: E) :=
  h.new ((Chgd.refl _ w).alloc _) _ (Row.newAt w cs.toArray t cs _ rfl rfl) (by simp [Ent.fp]) (by simp [Ent.fp])
/-- A new variable, or a value in a new box. -/
def NewRow (w0 w : World) (S : List Nat) (E : List Ent) (cs : List Value) (v : Value) (w' : World) : Prop := ∃ b, v = .pointer (some ⟨b, 0, none⟩) ∧ w.heap.size ≤ b ∧ St w0 w' S (.row b cs :: E)
theorem g_alloc (ty : TypeId) (hop : o.op = .alloc ty) (cs : List Value) (hz : ((P.info? ty).bind (·.zero)).map (·.cells) = some cs.toArray) (h : St w0 w S E) :
    gives P (NewRow w0 w S E cs) ((execOp ρ o).run P w) := by
  refine ⟨?_⟩
  cases hq : P.info? ty with
  | none => simp [hq] at hz
  | some i =>
    cases hz' : i.zero with
    | none => simp [hq, hz'] at hz
    | some z =>
      have hc : z.cells = cs.toArray := by simpa [hq, hz'] using hz
      unfold execOp
      simp only [hop, Instr.alloc, zeroValue, typeInfo, hq, hz', Sem.run_bind, run_program, Result.andThen_ok, newVar, newRow, run_newObj_alloc, Sem.run_pure, hc]
      exact ⟨_, rfl, Nat.le_refl _, new_row h cs ty⟩
theorem g_box (ty : TypeId) (x : Operand) (v : Value) (hop : o.op = .box ty x) (hx : ρ x = v) (cs : List Value) (hc : v.cells = cs.toArray) (h : St w0 w S E) :
    gives P (NewRow w0 w S E cs) ((execOp ρ o).run P w) := by
  refine ⟨?_⟩
  unfold execOp
  simp only [hop, hx, Instr.box, Sem.run_bind, Result.andThen_ok, newVar, newRow, run_newObj_alloc, Sem.run_pure, hc]
  exact ⟨_, rfl, Nat.le_refl _, new_row h cs ty⟩
/-- A load of one cell. -/
theorem e_load {ty : TypeId} {x : Operand} (hop : o.op = .load ty x) {b i : Nat} (hx : ρ x = .pointer (some ⟨b, i, none⟩)) (hu : (isAgg ty).run P w = .ok false w) {cs : List Value} (hr : Row w b 0 cs) (v : Value) (hi : cs[i]? = some v) :
    (execOp ρ o).run P w = .ok (.value v) w := by
  have hc := hr.cell0 hi
  unfold execOp
  simp only [hop, hx, Instr.loadAt, Instr.sureAddr, loadVar, Sem.run_bind, Sem.run_pure, Result.andThen_ok, hu]
  simp [hc]
theorem e_loadc {ty : TypeId} {x : Operand} (hop : o.op = .load ty x) {p : Addr} (hx : ρ x = .pointer (some p)) (hu : (isAgg ty).run P w = .ok false w) (v : Value) (hc : w.cell? p = some v) :
    (execOp ρ o).run P w = .ok (.value v) w := by
  unfold execOp
  simp only [hop, hx, Instr.loadAt, Instr.sureAddr, loadVar, Sem.run_bind, Sem.run_pure, Result.andThen_ok, hu]
  simp [hc]
/-- A load of several cells. -/
theorem e_loads {ty : TypeId} {x : Operand} (hop : o.op = .load ty x) {b i : Nat} (hx : ρ x = .pointer (some ⟨b, i, none⟩)) (d : TypeDesc) (hu : P.underlying ty = some d) (hd : d.isRow = true) (n : Nat) (hn : (P.info? ty).map (·.size) = some n)
    {cs : List Value} (hr : Row w b 0 cs) (pre mid post : List Value) (hcs : cs = pre ++ (mid ++ post)) (hp : pre.length = i) (hm : mid.length = n) :
    (execOp ρ o).run P w = .ok (.value (.agg mid.toArray)) w := by
  subst hcs
  have h1 := Row.left (Row.right hr)
  rw [Nat.zero_add, hp] at h1
  exact exec_loadRow ty x hop b i hx mid h1 d hu hd n hn hm
theorem run_store1 (t : TypeId) (b i : Nat) (v : Value) (h1 : v.oneCell' = true) (ht : (P.info? t).map (·.size) = some 1) {cs : List Value} (hr : Row w b 0 cs) (hi : i < cs.length) :
    (storeVar t ⟨b, i, none⟩ v).run P w = .ok () (w.setCell ⟨b, i, none⟩ v) := by
  have hc := hr.cell0 (List.getElem?_eq_getElem hi)
  have hf := hr.free0 hi
  have hcells : v.cells = #[v] := by cases v <;> first | rfl | simp [Value.oneCell'] at h1
  cases hq : P.info? t with
  | none => simp [hq] at ht
  | some inf =>
    have hs : inf.size = 1 := by simpa [hq] using ht
    have hst := run_store P w ⟨b, i, none⟩ v .plain h1
    have hadd : (⟨b, i, none⟩ : Addr).add 0 = ⟨b, i, none⟩ := by unfold Addr.add; simp
    simp [storeVar, hcells, sizeOf, typeInfo, hq, hs, storeCells, hadd, hst, hc, hf]
/-- A store of one cell into a row that is held. -/
theorem g_store {ty : TypeId} {x y : Operand} (hop : o.op = .store ty x y) {b i : Nat} (hx : ρ x = .pointer (some ⟨b, i, none⟩)) (v : Value) (hy : ρ y = v) (h1 : v.oneCell' = true) (ht : (P.info? ty).map (·.size) = some 1)
    (h : St w0 w S E) (k : Nat) {cs : List Value} (hk : E[k]? = some (.row b cs)) (hi : i < cs.length) (cs' : List Value) (hcs : cs.set i v = cs') :
    gives P (fun u w' => u = undef ∧ St w0 w' S (E.set k (.row b cs'))) ((execOp ρ o).run P w) := by
  refine ⟨?_⟩
  subst hcs
  have hr := h.row k hk
  unfold execOp
  simp only [hop, hx, hy, Instr.storeAt, Instr.sureAddr, Sem.run_bind, Sem.run_pure, Result.andThen_ok, run_store1 ty b i v h1 ht hr hi]
  exact ⟨rfl, h.wrote k hk _ (Chgd.one w b i v) (hr.set0 hi v)⟩
/-- A store of several cells. -/
theorem g_stores {ty : TypeId} {x y : Operand} (hop : o.op = .store ty x y) {b i : Nat} (hx : ρ x = .pointer (some ⟨b, i, none⟩)) (ys : List Value) (hy : ρ y = .agg ys.toArray) (h1 : ∀ v ∈ ys, v.oneCell' = true) (n : Nat) (ht : (P.info? ty).map (·.size) = some n)
    (h : St w0 w S E) (k : Nat) {cs : List Value} (hk : E[k]? = some (.row b cs)) (pre mid post : List Value) (hcs : cs = pre ++ (mid ++ post)) (hp : pre.length = i) (hm : mid.length = n) (hn : ys.length = n) (cs' : List Value) (hcs' : pre ++ (ys ++ post) = cs') :
    gives P (fun u w' => u = undef ∧ St w0 w' S (E.set k (.row b cs'))) ((execOp ρ o).run P w) := by
  refine ⟨?_⟩
  subst hcs hcs'
  have hr := h.row k hk
  have hl := Row.left hr
  have hmid := Row.left (Row.right hr)
  have hpost := Row.right (Row.right hr)
  rw [Nat.zero_add, hp] at hmid hpost
  refine Lin2.gives_old (gives_storeRow ty x y hop b i mid ys hx hy hmid n ht hm hn h1 (fun w' r1 r2 r3 r4 => ⟨rfl, h.wrote k hk _ r4 ?_⟩))
  refine Row.join (hl.beside r2 r3 (by omega)) ?_
  rw [Nat.zero_add, hp]
  refine Row.join r1 ?_
  rw [hn, ← hm]
  exact hpost.beside r2 r3 (by omega)
end
end Go.Proofs.YtomalanncdcopaaDoor.St
