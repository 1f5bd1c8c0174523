/- Arrays and structs by value in memory: whole loads and stores, copies into them, results that lie in memory; of no program. -/
import Derived.Test.YtomalanncdcopaaDoorMem
import Derived.Deep.MidRow
import Derived.Laws.ResultCell
set_option linter.unusedSimpArgs false
set_option linter.unusedVariables false
namespace Go.Proofs.YtomalanncdcopaaDoor.Mem
open Go.RowKit

theorem rangeAt.keep {w w' : World} {S : Nat → Prop} {b o : Nat} {cs : List Value} (h : w.rangeAt b o cs) (ht : Chgd S w w') (hb : ¬ S b) : w'.rangeAt b o cs := fun j v hj => ht.at_ (h j v hj) hb
theorem there.keep {w w' : World} {S : Nat → Prop} {b o n : Nat} (h : w.there b o n) (ht : Chgd S w w') (hb : ¬ S b) : w'.there b o n := by
  intro j hj
  obtain ⟨h1, h2⟩ := h j hj
  obtain ⟨u, hu⟩ := Option.isSome_iff_exists.1 h1
  have hlt := block_lt hu
  exact ⟨by rw [ht.at_ hu hb]; rfl, (ht.frozen (p := ⟨b, o + j, none⟩) hlt hb).trans h2⟩
theorem there_set (w : World) (b o n b' o' : Nat) (cs : List Value) (h : w.there b o n) (hc : ∀ j, j < cs.length → (w.cell? ⟨b', o' + j, none⟩).isSome = true) : (w.setCells b' o' cs).there b o n := by
  intro j hj
  obtain ⟨h1, h2⟩ := h j hj
  refine ⟨?_, by rw [World.frozen?_setCells]; exact h2⟩
  by_cases hin : b = b' ∧ o' ≤ o + j ∧ o + j < o' + cs.length
  · obtain ⟨rfl, h3, h4⟩ := hin
    have := World.cell?_setCells_in b cs o' w hc (o + j - o') (by omega)
    rw [show o' + (o + j - o') = o + j by omega] at this
    rw [this]; rfl
  · rw [World.cell?_setCells_out b' cs o' w ⟨b, o + j, none⟩ (fun e _ => by simp at e; subst e; simp; omega)]
    exact h1
theorem range_set (w : World) (b o : Nat) (cs : List Value) (hc : ∀ j, j < cs.length → (w.cell? ⟨b, o + j, none⟩).isSome = true) : (w.setCells b o cs).rangeAt b o cs := by
  intro j v hj
  obtain ⟨hlt, rfl⟩ := List.getElem?_eq_some_iff.1 hj
  exact World.cell?_setCells_in b cs o w hc j hlt
/-- A new block's cells. -/
theorem range_new (w : World) (cs : Array Value) (t : TypeId) : (w.alloc (.cells cs t)).rangeAt w.heap.size 0 cs.toList := by
  intro j v hj
  have hg : (w.alloc (.cells cs t)).heap[w.heap.size]? = some (.cells cs t (0, 0)) := heap_alloc_new w _
  unfold World.cell?
  rw [hg]
  simpa using hj
theorem there_new (w : World) (cs : Array Value) (t : TypeId) : (w.alloc (.cells cs t)).there w.heap.size 0 cs.size := by
  intro j hj
  have hg : (w.alloc (.cells cs t)).heap[w.heap.size]? = some (.cells cs t (0, 0)) := heap_alloc_new w _
  constructor
  · unfold World.cell?
    rw [hg]
    simp [hj]
  · unfold World.frozen?
    rw [hg]
    simp

section
variable {P : Program}
/-- copy of a string into cells, all of it. -/
theorem run_copy_str (w : World) (dT sT ty elem : TypeId) (b o dLen dCap : Nat) (s : ByteArray) (hu : P.underlying dT = some (.slice elem)) (hs : (P.info? elem).map (·.size) = some 1) (hn : s.size ≤ dLen) (ht : w.there b o s.size) :
    (Builtin.copy_ #[dT, sT] ty #[.slice (some ⟨b, o, none⟩) dLen dCap, .string s]).run P w = .ok (goInt s.size) (w.setCells b o (Lib.strCells s)) := by
  have hsl := Lib.strCells_length s
  have hf := Lib.run_firstCells_string (P := P) w 1 s
  have hst := run_storeCells_cells (P := P) b o (Lib.strCells s) 0 w (fun j hj => (ht j (by omega)).1) (fun j hj => (ht j (by omega)).2) (Lib.strCells_oneCell s)
  simp only [Nat.add_zero] at hst
  cases hq : P.info? elem with
  | none => simp [hq] at hs
  | some i =>
    have hi : i.size = 1 := by simpa [hq] using hs
    have hmin : Nat.min s.size dLen = s.size := Nat.min_eq_left hn
    simp [Builtin.copy_, run_underlying hu, Builtin.lenOf, sizeOf, typeInfo, hq, hi, hmin, hf, hst]

variable {w : World} {ops : Array Oper} {rest : List Oper} {o : Oper} {a : Act} {K : Act → World → Prop} {Q : Exit → Act → World → Prop}

theorem wpList_copy_str (hgd : o.guard = none) (d s : Operand) (dT sT : TypeId) (ho : o.op = .call { callee := .builtin .copy, args := #[d, s], argTypes := #[dT, sT] })
    (elem : TypeId) (hu : P.underlying dT = some (.slice elem)) (hsz : (P.info? elem).map (·.size) = some 1)
    (b off dLen dCap : Nat) (hd : a.eval d = .slice (some ⟨b, off, none⟩) dLen dCap) (str : ByteArray) (hs : a.eval s = .string str) (hn : str.size ≤ dLen) (ht : w.there b off str.size)
    (h : ∀ w', w'.rangeAt b off (Lib.strCells str) → (∀ o' n, w.there b o' n → w'.there b o' n) → (∀ j, (j < off ∨ off + str.size ≤ j) → w'.cell? ⟨b, j, none⟩ = w.cell? ⟨b, j, none⟩) → Chgd (fun k => k = b) w w' → wpList P ops Q rest (a.put o.dst (goInt str.size)) w') :
    wpList P ops Q (o :: rest) a w := by
  refine wpList_plain hgd fun _ hK => ?_
  have hr := run_copy_str (P := P) w dT sT o.type elem b off dLen dCap str hu hsz hn ht
  unfold Oper.wp execOp
  simp only [ho, resolve, invoke, builtin, Sem.run_bind, Sem.run_pure, Result.andThen_ok, List.map_toArray, List.map_cons, List.map_nil, hd, hs, hr]
  have hsl := Lib.strCells_length str
  have hc : ∀ j, j < (Lib.strCells str).length → (w.cell? ⟨b, off + j, none⟩).isSome = true := fun j hj => (ht j (by omega)).1
  refine hK _ _ (h _ (range_set w b off _ hc) (fun o' n hn => there_set w b o' n b off _ hn hc) (fun j hj => World.cell?_setCells_out b _ off w ⟨b, j, none⟩ (fun _ _ => by simp; omega)) (setCells_touch _ _ _ _ _ rfl))

/-- copy of cells that lie in a row. -/
theorem wpList_copy_cells (hgd : o.guard = none) (d s : Operand) (dT sT : TypeId) (ho : o.op = .call { callee := .builtin .copy, args := #[d, s], argTypes := #[dT, sT] })
    (elem : TypeId) (hu : P.underlying dT = some (.slice elem)) (hsz : (P.info? elem).map (·.size) = some 1)
    (b off dLen dCap : Nat) (hd : a.eval d = .slice (some ⟨b, off, none⟩) dLen dCap) (b2 off2 sLen sCap : Nat) (hs : a.eval s = .slice (some ⟨b2, off2, none⟩) sLen sCap)
    (cs : List Value) (hn : cs.length = Nat.min sLen dLen) (hr : w.rangeAt b2 off2 cs) (ht : w.there b off cs.length) (h1 : ∀ v ∈ cs, v.oneCell' = true)
    (h : ∀ w', w'.rangeAt b off cs → (∀ o' n, w.there b o' n → w'.there b o' n) → (∀ j, (j < off ∨ off + cs.length ≤ j) → w'.cell? ⟨b, j, none⟩ = w.cell? ⟨b, j, none⟩) → Chgd (fun k => k = b) w w' → wpList P ops Q rest (a.put o.dst (goInt cs.length)) w') :
    wpList P ops Q (o :: rest) a w := by
  refine wpList_plain hgd fun _ hK => ?_
  have hrun := run_copy_cells (P := P) w dT sT o.type elem b off dLen dCap ⟨b2, off2, none⟩ sLen sCap cs hu hsz hn (fun j v hj => by rw [Addr.add_mid]; exact hr j v hj) (fun j hj => (ht j hj).1) (fun j hj => (ht j hj).2) h1
  unfold Oper.wp execOp
  simp only [ho, resolve, invoke, builtin, Sem.run_bind, Sem.run_pure, Result.andThen_ok, List.map_toArray, List.map_cons, List.map_nil, hd, hs, hrun]
  have hc : ∀ j, j < cs.length → (w.cell? ⟨b, off + j, none⟩).isSome = true := fun j hj => (ht j hj).1
  refine hK _ _ (h _ (range_set w b off _ hc) (fun o' n hn => there_set w b o' n b off _ hn hc) (fun j hj => World.cell?_setCells_out b _ off w ⟨b, j, none⟩ (fun _ _ => by simp; omega)) (setCells_touch _ _ _ _ _ rfl))

/-- A whole array or struct is stored. -/
theorem wpList_store_agg (hgd : o.guard = none) (ty : TypeId) (x y : Operand) (ho : o.op = .store ty x y)
    (b off : Nat) (cells : Array Value) (hx : a.eval x = .pointer (some ⟨b, off, none⟩)) (hy : a.eval y = .agg cells)
    (ht : w.there b off cells.size) (hi : (P.info? ty).map (·.size) = some cells.size) (h1 : cells.all (·.oneCell') = true)
    (h : ∀ w', w'.rangeAt b off cells.toList → (∀ o' n, w.there b o' n → w'.there b o' n) → (∀ j, (j < off ∨ off + cells.size ≤ j) → w'.cell? ⟨b, j, none⟩ = w.cell? ⟨b, j, none⟩) → Chgd (fun k => k = b) w w' → wpList P ops Q rest (a.put o.dst undef) w') :
    wpList P ops Q (o :: rest) a w := by
  have hc : ∀ j, j < cells.toList.length → (w.cell? ⟨b, off + j, none⟩).isSome = true := fun j hj => (ht j (by simpa using hj)).1
  refine wpList_store_mid hgd ty x y ho b off cells hx hy ht hi h1 (h _ (range_set w b off _ hc) (fun o' n hn => there_set w b o' n b off _ hn hc) (fun j hj => World.cell?_setCells_out b _ off w ⟨b, j, none⟩ (fun _ _ => by simp; omega)) (setCells_touch _ _ _ _ _ rfl))

/-- A load of a whole array or struct, under a guard that says yes. -/
theorem wpList_load_want (hw : Region.wanted o (yielded ops a.tmps) = true) (ty : TypeId) (x : Operand) (ho : o.op = .load ty x)
    (b off : Nat) (hx : a.eval x = .pointer (some ⟨b, off, none⟩)) (cs : List Value) (d : TypeDesc) (hc : w.rangeAt b off cs)
    (hu : P.underlying ty = some d) (hd : d.isRow = true) (hi : (P.info? ty).map (·.size) = some cs.length)
    (h : wpList P ops Q rest (a.put o.dst (.agg cs.toArray)) w) : wpList P ops Q (o :: rest) a w :=
  BigFrame.wpList_want hw fun _ hK => wp_load_mid ty x ho b off hx cs d hc hu hd hi (hK _ _ h)

/-- A function's result that lies in memory. -/
theorem results_cell_mid {fn : Func} {p : Tmp} {ty : TypeId} (h : fn.results = #[.cell p ty]) (tmps : Array Value) (w : World) (b off : Nat) (cs : List Value) (d : TypeDesc) (hp : tmps.getD p undef = .pointer (some ⟨b, off, none⟩)) (hc : w.rangeAt b off cs)
    (hu : P.underlying ty = some d) (hd : d.isRow = true) (hi : (P.info? ty).map (·.size) = some cs.length) : (results fn tmps).run P w = .ok (.agg cs.toArray) w := by
  have hp' : tmps[p]?.getD undef = .pointer (some ⟨b, off, none⟩) := by simpa using hp
  simp [results, h, hp', asAddr, run_loadVar_mid w b off ty cs d hc hu hd hi]
theorem results_cell_mid_tmp {fn : Func} {p u : Tmp} {ty : TypeId} (h : fn.results = #[.cell p ty, .tmp u]) (tmps : Array Value) (w : World) (b off : Nat) (cs : List Value) (d : TypeDesc) (hp : tmps.getD p undef = .pointer (some ⟨b, off, none⟩)) (hc : w.rangeAt b off cs)
    (hu : P.underlying ty = some d) (hd : d.isRow = true) (hi : (P.info? ty).map (·.size) = some cs.length) : (results fn tmps).run P w = .ok (.tuple #[.agg cs.toArray, tmps.getD u undef]) w := by
  rw [results_cell_tmp h, hp]
  simp [asAddr, run_loadVar_mid w b off ty cs d hc hu hd hi]
end
end Go.Proofs.YtomalanncdcopaaDoor.Mem
