/- Steps of a region's walk (Lin), rows of cells that may be written (Arr); of no program. -/
import Derived.Test.YtomalanncdcopaaDoorLin
import Derived.Test.YtomalanncdcopaaDoorArr
set_option linter.unusedSimpArgs false
set_option linter.unusedVariables false
namespace Go.Proofs.YtomalanncdcopaaDoor.Lin
open Go Go.Proofs.YtomalanncdcopaaDoor.Mem

section
variable {X : Env} {Q : Act → World → Prop} {o : Oper} {rest : List Oper} {j : Nat} {F : List Know} {S : Act}

theorem over_nil (S : Act) (f : Tmp → Value) : over S [] f = S := rfl

/-- An operation that yields its value whatever the world. -/
theorem walk_pure (v : Value) (hs : soft X.l X.fx j o = []) (he : X.effs.contains j = false) (hw : Region.wanted o (yielded X.l.toArray S.tmps) = true)
    (hr : ∀ w, (execOp S.eval o).run X.P w = .ok (.value v) w) (h : ∀ S', S' = S.put o.dst v → Walk X Q rest (j + 1) (.det v :: F) S') : Walk X Q (o :: rest) j F S := by
  refine ⟨.det v, ⟨.inl rfl, fun f w w' hh _ => hh, trivial, fun f w k _ _ _ _ hI => ?_⟩, h _ rfl⟩
  have hj : ¬ j ∈ X.effs := by simpa using he
  rw [hs, over_nil, if_pos hw, hr, if_neg hj]
  exact ⟨Chgd.refl _ _, hI, fun d hd => by simp [put, hd]⟩

/-- An operation that only reads, ahead of all effects. -/
theorem walk_read (v : Value) (hs : soft X.l X.fx j o = []) (he : X.effs.contains j = false) (hk : hi X.m X.effs j = 0) (hw : Region.wanted o (yielded X.l.toArray S.tmps) = true)
    (hr : ∀ w, Chgd X.S X.w0 w → X.I 0 w → (execOp S.eval o).run X.P w = .ok (.value v) w) (h : ∀ S', S' = S.put o.dst v → Walk X Q rest (j + 1) (.det v :: F) S') : Walk X Q (o :: rest) j F S := by
  refine ⟨.det v, ⟨.inl rfl, fun f w w' hh _ => hh, trivial, fun f w k _ hc _ h2 hI => ?_⟩, h _ rfl⟩
  have hj : ¬ j ∈ X.effs := by simpa using he
  obtain rfl : k = 0 := by omega
  rw [hs, over_nil, if_pos hw, hr w hc hI, if_neg hj]
  exact ⟨Chgd.refl _ _, hI, fun d hd => by simp [put, hd]⟩

/-- An operation whose guard says no. -/
theorem walk_skip (hs : soft X.l X.fx j o = []) (he : X.effs.contains j = false) (hw : Region.wanted o (yielded X.l.toArray S.tmps) = false)
    (h : ∀ S', S' = S.put o.dst undef → Walk X Q rest (j + 1) (.det undef :: F) S') : Walk X Q (o :: rest) j F S := by
  refine ⟨.det undef, ⟨.inl rfl, fun f w w' hh _ => hh, trivial, fun f w k _ hc _ h2 hI => ?_⟩, h _ rfl⟩
  have hj : ¬ j ∈ X.effs := by simpa using he
  rw [hs, over_nil, hw, if_neg (by simp)]
  exact ⟨hj, fun d hd => by simp [put, hd]⟩

/-- A call (or whatever makes memory) whose value is known, ahead of all effects. -/
theorem walk_call (v : Value) (hs : soft X.l X.fx j o = []) (he : X.effs.contains j = false) (hk : hi X.m X.effs j = 0) (hw : Region.wanted o (yielded X.l.toArray S.tmps) = true)
    (hr : ∀ w, Chgd X.S X.w0 w → X.I 0 w → gives X.P (fun u w' => u = v ∧ Chgd X.S w w' ∧ X.I 0 w') ((execOp S.eval o).run X.P w))
    (h : ∀ S', S' = S.put o.dst v → Walk X Q rest (j + 1) (.det v :: F) S') : Walk X Q (o :: rest) j F S := by
  refine ⟨.det v, ⟨.inl rfl, fun f w w' hh _ => hh, trivial, fun f w k _ hc _ h2 hI => ?_⟩, h _ rfl⟩
  have hj : ¬ j ∈ X.effs := by simpa using he
  obtain rfl : k = 0 := by omega
  rw [hs, over_nil, if_pos hw, if_neg hj]
  have := hr w hc hI
  revert this
  generalize (execOp S.eval o).run X.P w = r
  intro this
  have key : ∀ {u : Value} {w' : World}, u = v ∧ Chgd X.S w w' ∧ X.I 0 w' → Chgd X.S w w' ∧ X.I 0 w' ∧ (Know.det v).holds o.dst (put f o.dst u) w' := fun ⟨h1, h2, h3⟩ => ⟨h2, h3, fun d hd => by simp [put, hd, h1]⟩
  cases r with
  | ok n w' =>
    cases n <;> simp only [gives] at this ⊢
    case value u => exact key this
    case skip => exact key this
    case enter f args => exact Calls.mono this fun e w'' ⟨u, he, hu⟩ => ⟨u, he, key hu⟩
  | halt x w' => simp only [gives] at this

theorem gives_mono {P : Program} {K K' : Value → World → Prop} (h : ∀ v w, K v w → K' v w) {r : Result Next} (hr : gives P K r) : gives P K' r := by
  cases r with
  | ok n w' =>
    cases n <;> simp only [gives] at hr ⊢
    case value u => exact h _ _ hr
    case skip => exact h _ _ hr
    case enter f args => exact Calls.mono hr fun e w'' ⟨u, he, hu⟩ => ⟨u, he, h _ _ hu⟩
  | halt x w' => simp only [gives] at hr

/-- The same, of an operation that looks at what is known by predicates alone ('ts'). -/
theorem walk_soft (ts : List Tmp) (v : Value) (hs : soft X.l X.fx j o = ts) (he : X.effs.contains j = false) (hk : hi X.m X.effs j = 0)
    (hw : ∀ f, Region.wanted o (yielded X.l.toArray (over S ts f).tmps) = true)
    (hr : ∀ f w, (∀ i, i < j → bef X.m j i = true → (nth F j i).holds (dstAt X.l i) f w) → Chgd X.S X.w0 w → X.I 0 w → gives X.P (fun u w' => u = v ∧ Chgd X.S w w' ∧ X.I 0 w') ((execOp (over S ts f).eval o).run X.P w))
    (h : ∀ S', S' = S.put o.dst v → Walk X Q rest (j + 1) (.det v :: F) S') : Walk X Q (o :: rest) j F S := by
  refine ⟨.det v, ⟨.inl rfl, fun f w w' hh _ => hh, trivial, fun f w k hf hc _ h2 hI => ?_⟩, h _ rfl⟩
  have hj : ¬ j ∈ X.effs := by simpa using he
  obtain rfl : k = 0 := by omega
  rw [hs, if_pos (hw f), if_neg hj]
  exact gives_mono (fun u w' ⟨h1, h2, h3⟩ => ⟨h2, h3, fun d hd => by simp [put, hd, h1]⟩) (hr f w hf hc hI)

/-- What is known by a predicate alone, ahead of all effects. -/
theorem walk_fact (ts : List Tmp) (d : Tmp) (G : Value → World → Prop) (hd : o.dst = some d) (hx : X.fx.contains j = true) (hs : soft X.l X.fx j o = ts) (he : X.effs.contains j = false) (hk : hi X.m X.effs j = 0)
    (hj : dstAt X.l j = some d) (hu : uniq X.l = true)
    (hw : ∀ f, Region.wanted o (yielded X.l.toArray (over S ts f).tmps) = true)
    (hG : ∀ v w w', G v w → Chgd X.S w w' → G v w')
    (hr : ∀ f w, (∀ i, i < j → bef X.m j i = true → (nth F j i).holds (dstAt X.l i) f w) → Chgd X.S X.w0 w → X.I 0 w → gives X.P (fun u w' => G u w' ∧ Chgd X.S w w' ∧ X.I 0 w') ((execOp (over S ts f).eval o).run X.P w))
    (h : ∀ S', S' = S.put o.dst undef → Walk X Q rest (j + 1) (.fact [d] (fun vs w => ∃ v, vs = [v] ∧ G v w) :: F) S') : Walk X Q (o :: rest) j F S := by
  refine ⟨.fact [d] fun vs w => ∃ v, vs = [v] ∧ G v w, ⟨.inr (by simpa using hx), fun f w w' ⟨v, h1, h2⟩ hc => ⟨v, h1, hG v w w' h2 hc⟩, ?_, fun f w k hf hc _ h2 hI => ?_⟩, h _ rfl⟩
  · intro t ht i hi
    obtain rfl : t = d := by simpa using ht
    refine .inr ?_
    have hlt : ∀ {k}, dstAt X.l k = some t → k < X.l.length := by
      intro k hk
      apply Nat.lt_of_not_le
      intro hle
      unfold dstAt at hk
      rw [List.getElem?_eq_none hle] at hk
      cases hk
    have key : ∀ {i j : Nat}, dstAt X.l i = some t → dstAt X.l j = some t → ¬ i < j := by
      intro i j hi hj hij
      unfold uniq at hu
      rw [List.all_eq_true] at hu
      have h1 := hu j (List.mem_range.2 (hlt hj))
      rw [List.all_eq_true] at h1
      have h2 := h1 i (List.mem_range.2 hij)
      rw [hi, hj] at h2
      simp at h2
    rcases Nat.lt_trichotomy i j with h1 | h1 | h1
    · exact absurd h1 (key hi hj)
    · exact h1
    · exact absurd h1 (key hj hi)
  · have hj' : ¬ j ∈ X.effs := by simpa using he
    obtain rfl : k = 0 := by omega
    rw [hs, if_pos (hw f), if_neg hj']
    refine gives_mono (fun u w' ⟨h1, h2, h3⟩ => ⟨h2, h3, u, ?_, h1⟩) (hr f w hf hc hI)
    simp [put, hd]

/-- The last operation: an effect, behind all others. -/
theorem walk_last (ts : List Tmp) (v : Value) (hs : soft X.l X.fx j o = ts) (he : X.effs = [j]) (hk : hi X.m X.effs j = 0)
    (hw : ∀ f, Region.wanted o (yielded X.l.toArray (over S ts f).tmps) = true)
    (hr : ∀ f w, (∀ i, i < j → bef X.m j i = true → (nth F j i).holds (dstAt X.l i) f w) → Chgd X.S X.w0 w → X.I 0 w → gives X.P (fun u w' => u = v ∧ Chgd X.S w w' ∧ X.I 1 w') ((execOp (over S ts f).eval o).run X.P w))
    (h : ∀ S', S' = S.put o.dst v → Walk X Q rest (j + 1) (.det v :: F) S') : Walk X Q (o :: rest) j F S := by
  refine ⟨.det v, ⟨.inl rfl, fun f w w' hh _ => hh, trivial, fun f w k hf hc _ h2 hI => ?_⟩, h _ rfl⟩
  have hj : j ∈ X.effs := by simp [he]
  obtain rfl : k = 0 := by omega
  rw [hs, if_pos (hw f), if_pos hj]
  exact gives_mono (fun u w' ⟨h1, h2, h3⟩ => ⟨h2, h3, fun d hd => by simp [put, hd, h1]⟩) (hr f w hf hc hI)

/-- The end, if all values are known. -/
theorem walk_end0 (hx : X.fx = []) (hQ : ∀ w, Chgd X.S X.w0 w → X.I X.effs.length w → Q S w) : Walk X Q [] j F S := by
  intro f w _ h2 h3
  rw [hx]
  exact hQ w h2 h3
/-- The end, if some are known by predicates alone. -/
theorem walk_end1 (ts : List Tmp) (hx : X.fx.filterMap (dstAt X.l) = ts) (hQ : ∀ f w, (∀ i, i < j → (nth F j i).holds (dstAt X.l i) f w) → Chgd X.S X.w0 w → X.I X.effs.length w →
    ∀ S', S' = over S ts f → Q S' w) : Walk X Q [] j F S := by
  intro f w h1 h2 h3
  rw [hx]
  exact hQ f w h1 h2 h3 _ rfl
theorem walk_end (hQ : ∀ f w, (∀ i, i < j → (nth F j i).holds (dstAt X.l i) f w) → Chgd X.S X.w0 w → X.I X.effs.length w → Q (over S (X.fx.filterMap (dstAt X.l)) f) w) : Walk X Q [] j F S := hQ
end
end Go.Proofs.YtomalanncdcopaaDoor.Lin
namespace Go.Proofs.YtomalanncdcopaaDoor.Mem
open Go

/-- Cells that lie in a row and may be written. -/
def Row (w : World) (b o : Nat) (cs : List Value) : Prop := w.rangeAt b o cs ∧ w.there b o cs.length
theorem Row.cell {w : World} {b o : Nat} {cs : List Value} (h : Row w b o cs) {i : Nat} {v : Value} (hi : cs[i]? = some v) : w.cell? ⟨b, o + i, none⟩ = some v := h.1 i v hi
theorem Row.cell0 {w : World} {b : Nat} {cs : List Value} (h : Row w b 0 cs) {i : Nat} {v : Value} (hi : cs[i]? = some v) : w.cell? ⟨b, i, none⟩ = some v := by have := h.1 i v hi; rwa [Nat.zero_add] at this
theorem Row.free {w : World} {b o : Nat} {cs : List Value} (h : Row w b o cs) {i : Nat} (hi : i < cs.length) : w.frozen? ⟨b, o + i, none⟩ = false := (h.2 i hi).2
theorem Row.free0 {w : World} {b : Nat} {cs : List Value} (h : Row w b 0 cs) {i : Nat} (hi : i < cs.length) : w.frozen? ⟨b, i, none⟩ = false := by have := (h.2 i hi).2; rwa [Nat.zero_add] at this
theorem Row.keep {w w' : World} {S : Nat → Prop} {b o : Nat} {cs : List Value} (h : Row w b o cs) (ht : Chgd S w w') (hb : ¬ S b) : Row w' b o cs := ⟨rangeAt.keep h.1 ht hb, there.keep h.2 ht hb⟩
theorem Row.lt {w : World} {b o : Nat} {cs : List Value} (h : Row w b o cs) (hc : 0 < cs.length) : b < w.heap.size := by
  have := h.1 0 cs[0] (List.getElem?_eq_getElem hc)
  exact block_lt this
theorem Row.new (w : World) (cs : Array Value) (t : TypeId) : Row (w.alloc (.cells cs t)) w.heap.size 0 cs.toList := ⟨range_new w cs t, by simpa using there_new w cs t⟩
theorem ne_off {b o i j : Nat} (h : ¬ i = j) : (⟨b, o + i, none⟩ : Addr) ≠ ⟨b, o + j, none⟩ := by
  intro e
  injection e with _ e2
  omega
theorem Row.set {w : World} {b o : Nat} {cs : List Value} (h : Row w b o cs) {i : Nat} (hi : i < cs.length) (v : Value) : Row (w.setCell ⟨b, o + i, none⟩ v) b o (cs.set i v) := by
  refine ⟨fun j u hj => ?_, fun j hj => ?_⟩
  · by_cases hij : i = j
    · subst hij
      rw [List.getElem?_set_self hi] at hj
      cases hj
      exact World.cell?_setCell_same _ _ _ (h.cell (List.getElem?_eq_getElem hi))
    · rw [List.getElem?_set_ne hij] at hj
      rw [World.cell?_setCell_other _ _ _ _ (ne_off (o := o) hij)]
      exact h.1 j u hj
  · rw [List.length_set] at hj
    refine ⟨?_, by rw [World.frozen?_setCell]; exact (h.2 j hj).2⟩
    by_cases hij : i = j
    · subst hij
      rw [World.cell?_setCell_same _ _ _ (h.cell (List.getElem?_eq_getElem hi))]
      rfl
    · rw [World.cell?_setCell_other _ _ _ _ (ne_off (o := o) hij)]
      exact (h.2 j hj).1
theorem Row.set0 {w : World} {b : Nat} {cs : List Value} (h : Row w b 0 cs) {i : Nat} (hi : i < cs.length) (v : Value) : Row (w.setCell ⟨b, i, none⟩ v) b 0 (cs.set i v) := by
  have := h.set hi v
  rwa [Nat.zero_add] at this
theorem Row.drew {w : World} {b o : Nat} {cs : List Value} (h : Row w b o cs) : Row w.drew b o cs := h.keep (Chgd.refl (fun _ => False) w).drew (fun h => h)
theorem Chgd.one (w : World) (b o : Nat) (v : Value) : Chgd (fun j => j = b) w (w.setCell ⟨b, o, none⟩ v) := Chgd.setCell (S := fun j => j = b) (Chgd.refl (fun j => j = b) w) (p := ⟨b, o, none⟩) (fun _ => show b = b from rfl) v
theorem Row.alloc {w : World} {b o : Nat} {cs : List Value} (h : Row w b o cs) (ob : Obj) : Row (w.alloc ob) b o cs := h.keep ((Chgd.refl (fun _ => False) w).alloc ob) (fun h => h)
theorem Row.newAt (w : World) (cs : Array Value) (t : TypeId) (l : List Value) (b : Nat) (hb : b = w.heap.size) (hl : cs.toList = l) : Row (w.alloc (.cells cs t)) b 0 l := by subst hb; subst hl; exact Row.new w cs t
section
variable {P : Program} {w : World} {ops : Array Oper} {o : Oper} {a : Act} {rest : List Oper} {Q : Exit → Act → World → Prop}
theorem wpList_loadRow (hgd : o.guard = none) (ty : TypeId) (x : Operand) (ho : o.op = .load ty x) (b off : Nat) (hx : a.eval x = .pointer (some ⟨b, off, none⟩)) (cs : List Value) (hc : Row w b off cs)
    (d : TypeDesc) (hu : P.underlying ty = some d) (hd : d.isRow = true) (n : Nat) (hi : (P.info? ty).map (·.size) = some n) (hn : cs.length = n)
    (h : wpList P ops Q rest (a.put o.dst (.agg cs.toArray)) w) : wpList P ops Q (o :: rest) a w :=
  wpList_load_mid hgd ty x ho b off hx cs d hc.1 hu hd (by rw [hi, hn]) h
theorem wpList_storeRow (hgd : o.guard = none) (ty : TypeId) (x y : Operand) (ho : o.op = .store ty x y) (b off : Nat) (xs ys : List Value) (hx : a.eval x = .pointer (some ⟨b, off, none⟩)) (hy : a.eval y = .agg ys.toArray)
    (hR : Row w b off xs) (n : Nat) (hi : (P.info? ty).map (·.size) = some n) (hxs : xs.length = n) (hys : ys.length = n) (h1 : ∀ v ∈ ys, v.oneCell' = true)
    (h : ∀ w', Row w' b off ys → (∀ o' n, w.there b o' n → w'.there b o' n) → (∀ j, (j < off ∨ off + n ≤ j) → w'.cell? ⟨b, j, none⟩ = w.cell? ⟨b, j, none⟩) → Chgd (fun k => k = b) w w' → wpList P ops Q rest (a.put o.dst undef) w') :
    wpList P ops Q (o :: rest) a w := by
  refine wpList_store_agg hgd ty x y ho b off ys.toArray hx hy (by simp only [List.size_toArray]; rw [hys, ← hxs]; exact hR.2) (by simp only [List.size_toArray]; rw [hi, hys]) (by simpa using h1) ?_
  intro w' h2 h3 h4 h5
  refine h w' ⟨by simpa using h2, h3 off _ (by rw [hys, ← hxs]; exact hR.2)⟩ h3 (fun j hj => h4 j (by simp only [List.size_toArray]; rw [hys]; exact hj)) h5
theorem run_indexRow {P : Program} (w : World) (t e : TypeId) (n k : Nat) (cs : Array Value) (v : Value) (hu : P.underlying t = some (.array n e)) {kd : IntKind} (hs : P.underlying e = some (.int kd)) (hi : (P.info? e).map (·.size) = some 1) (hk : k < n) (hv : cs[k]? = some v) :
    (Instr.index t (.agg cs) (.int .i64 k)).run P w = .ok v w := by
  cases hq : P.info? e with
  | none => simp [hq] at hi
  | some i =>
    have hi1 : i.size = 1 := by simpa [hq] using hi
    have hk' : (k : Int) < (n : Int) := by omega
    simp [Instr.index, asIntOf, run_underlying hu, sizeOf, typeInfo, hq, hi1, hk', part, isAgg, run_underlying hs, hv]
    omega
theorem wpList_indexRow (hgd : o.guard = none) (t : TypeId) (x y : Operand) (ho : o.op = .index t x y) (cs : Array Value) (hx : a.eval x = .agg cs) (k : Nat) (hy : a.eval y = .int .i64 k)
    (e : TypeId) (n : Nat) (v : Value) (hu : P.underlying t = some (.array n e)) {kd : IntKind} (hs : P.underlying e = some (.int kd)) (hi : (P.info? e).map (·.size) = some 1) (hk : k < n) (hv : cs[k]? = some v)
    (h : wpList P ops Q rest (a.put o.dst v) w) : wpList P ops Q (o :: rest) a w := by
  refine wpList_plain hgd fun _ hK => ?_
  unfold Oper.wp execOp
  simp only [ho, hx, hy, Sem.run_bind, run_indexRow (P := P) w t e n k cs v hu hs hi hk hv, Result.andThen_ok, Sem.run_pure]
  exact hK _ _ h
theorem gives_copy {ρ : Operand → Value} {K : Value → World → Prop} (d s : Operand) (dT sT : TypeId) (ho : o.op = .call { callee := .builtin .copy, args := #[d, s], argTypes := #[dT, sT] })
    (elem : TypeId) (hu : P.underlying dT = some (.slice elem)) (hsz : (P.info? elem).map (·.size) = some 1)
    (b off dLen dCap : Nat) (hd : ρ d = .slice (some ⟨b, off, none⟩) dLen dCap) (b2 off2 sLen sCap : Nat) (hs : ρ s = .slice (some ⟨b2, off2, none⟩) sLen sCap)
    (cs : List Value) (hn : cs.length = Nat.min sLen dLen) (hr : w.rangeAt b2 off2 cs) (ht : w.there b off cs.length) (h1 : ∀ v ∈ cs, v.oneCell' = true)
    (h : ∀ w', w'.rangeAt b off cs → (∀ o' n, w.there b o' n → w'.there b o' n) → (∀ j, (j < off ∨ off + cs.length ≤ j) → w'.cell? ⟨b, j, none⟩ = w.cell? ⟨b, j, none⟩) → Chgd (fun k => k = b) w w' → K (goInt cs.length) w') :
    Lin.gives P K ((execOp ρ o).run P w) := by
  have hrun := run_copy_cells (P := P) w dT sT o.type elem b off dLen dCap ⟨b2, off2, none⟩ sLen sCap cs hu hsz hn (fun j v hj => by rw [Addr.add_mid]; exact hr j v hj) (fun j hj => (ht j hj).1) (fun j hj => (ht j hj).2) h1
  unfold execOp
  simp only [ho, resolve, invoke, builtin, Sem.run_bind, Sem.run_pure, Result.andThen_ok, List.map_toArray, List.map_cons, List.map_nil, hd, hs, hrun]
  have hc : ∀ j, j < cs.length → (w.cell? ⟨b, off + j, none⟩).isSome = true := fun j hj => (ht j hj).1
  exact h _ (range_set w b off _ hc) (fun o' n hn => there_set w b o' n b off _ hn hc) (fun j hj => World.cell?_setCells_out b _ off w ⟨b, j, none⟩ (fun _ _ => by simp; omega)) (setCells_touch _ _ _ _ _ rfl)
theorem exec_loadRow {ρ : Operand → Value} (ty : TypeId) (x : Operand) (ho : o.op = .load ty x) (b off : Nat) (hx : ρ x = .pointer (some ⟨b, off, none⟩)) (cs : List Value) (hc : Row w b off cs)
    (d : TypeDesc) (hu : P.underlying ty = some d) (hd : d.isRow = true) (n : Nat) (hi : (P.info? ty).map (·.size) = some n) (hn : cs.length = n) : (execOp ρ o).run P w = .ok (.value (.agg cs.toArray)) w := by
  unfold execOp
  simp only [ho, hx, Instr.loadAt, Instr.sureAddr, Sem.run_bind, Sem.run_pure, Result.andThen_ok, run_loadVar_mid w b off ty cs d hc.1 hu hd (by rw [hi, hn])]
theorem gives_storeRow {ρ : Operand → Value} {K : Value → World → Prop} (ty : TypeId) (x y : Operand) (ho : o.op = .store ty x y) (b off : Nat) (xs ys : List Value) (hx : ρ x = .pointer (some ⟨b, off, none⟩)) (hy : ρ y = .agg ys.toArray)
    (hR : Row w b off xs) (n : Nat) (hi : (P.info? ty).map (·.size) = some n) (hxs : xs.length = n) (hys : ys.length = n) (h1 : ∀ v ∈ ys, v.oneCell' = true)
    (h : ∀ w', Row w' b off ys → (∀ o' n, w.there b o' n → w'.there b o' n) → (∀ j, (j < off ∨ off + n ≤ j) → w'.cell? ⟨b, j, none⟩ = w.cell? ⟨b, j, none⟩) → Chgd (fun k => k = b) w w' → K undef w') :
    Lin.gives P K ((execOp ρ o).run P w) := by
  have ht : w.there b off ys.length := by rw [hys, ← hxs]; exact hR.2
  unfold execOp
  simp only [ho, hx, hy, Instr.storeAt, Instr.sureAddr, Sem.run_bind, Sem.run_pure, Result.andThen_ok, run_storeVar_mid w b off ty ys.toArray (by simpa using ht) (by simp only [List.size_toArray]; rw [hi, hys]) (by simpa using h1)]
  have hc : ∀ j, j < ys.length → (w.cell? ⟨b, off + j, none⟩).isSome = true := fun j hj => (ht j hj).1
  have h3 : ∀ o' n, w.there b o' n → (w.setCells b off ys).there b o' n := fun o' n hn => there_set w b o' n b off _ hn hc
  exact h _ ⟨range_set w b off _ hc, h3 off _ ht⟩ h3 (fun j hj => World.cell?_setCells_out b _ off w ⟨b, j, none⟩ (fun _ _ => by simp; omega)) (setCells_touch _ _ _ _ _ rfl)
end
section
theorem Row.left {w : World} {b o : Nat} {xs ys : List Value} (h : Row w b o (xs ++ ys)) : Row w b o xs := by
  refine ⟨fun j v hj => h.1 j v ?_, fun j hj => h.2 j (by rw [List.length_append]; omega)⟩
  rw [List.getElem?_append_left ((List.getElem?_eq_some_iff.1 hj).1)]; exact hj
theorem Row.right {w : World} {b o : Nat} {xs ys : List Value} (h : Row w b o (xs ++ ys)) : Row w b (o + xs.length) ys := by
  refine ⟨fun j v hj => ?_, fun j hj => ?_⟩
  · have := h.1 (xs.length + j) v (by rw [List.getElem?_append_right (by omega), Nat.add_sub_cancel_left]; exact hj)
    rwa [← Nat.add_assoc] at this
  · have := h.2 (xs.length + j) (by rw [List.length_append]; omega)
    rwa [← Nat.add_assoc] at this
theorem Row.join {w : World} {b o : Nat} {xs ys : List Value} (h1 : Row w b o xs) (h2 : Row w b (o + xs.length) ys) : Row w b o (xs ++ ys) := by
  refine ⟨fun j v hj => ?_, fun j hj => ?_⟩
  · by_cases hlt : j < xs.length
    · rw [List.getElem?_append_left hlt] at hj; exact h1.1 j v hj
    · rw [List.getElem?_append_right (by omega)] at hj
      have := h2.1 (j - xs.length) v hj
      rwa [show o + xs.length + (j - xs.length) = o + j by omega] at this
  · by_cases hlt : j < xs.length
    · exact h1.2 j hlt
    · rw [List.length_append] at hj
      have := h2.2 (j - xs.length) (by omega)
      rwa [show o + xs.length + (j - xs.length) = o + j by omega] at this
/-- What lies beside a store. -/
theorem Row.beside {w w' : World} {b o off n : Nat} {xs : List Value} (h : Row w b o xs) (h3 : ∀ o' n, w.there b o' n → w'.there b o' n) (h4 : ∀ j, (j < off ∨ off + n ≤ j) → w'.cell? ⟨b, j, none⟩ = w.cell? ⟨b, j, none⟩)
    (ha : o + xs.length ≤ off ∨ off + n ≤ o) : Row w' b o xs := by
  refine ⟨fun j v hj => ?_, h3 _ _ h.2⟩
  have := (List.getElem?_eq_some_iff.1 hj).1
  rw [h4 (o + j) (by omega)]
  exact h.1 j v hj
/-- Two rows of one block that hold things of another kind are not in one block. -/
theorem Row.ne {w : World} {b b' i : Nat} {u v : Value} (h1 : w.cell? ⟨b, i, none⟩ = some u) (h2 : w.cell? ⟨b', i, none⟩ = some v) (h : u ≠ v) : b ≠ b' := fun e => by
  subst e; rw [h1] at h2; cases h2; exact h rfl
end
end Go.Proofs.YtomalanncdcopaaDoor.Mem
