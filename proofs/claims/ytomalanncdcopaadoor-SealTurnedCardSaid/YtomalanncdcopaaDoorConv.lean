/- Bytes: []byte(s), append(b, make([]byte, n)...), on rows; of no program. -/
import Derived.Test.YtomalanncdcopaaDoorArr
import Derived.Test.YtomalanncdcopaaDoorLinW
import Derived.Lib.AppendZerosOnto
set_option linter.unusedSimpArgs false
set_option linter.unusedVariables false
namespace Go.Proofs.YtomalanncdcopaaDoor.Mem
open Go Go.RowKit

theorem okCap {w : World} {n c : Nat} {e : TypeId} (h : n ≤ 140737488355328) : n ≤ grownCap w n c e ∧ grownCap w n c e ≤ maxLen := ⟨grownCap_ge _ _ _ _, grownCap_le_maxLen _ _ _ _ (by unfold maxLen; omega)⟩

/-- []byte(s). -/
theorem run_bytes {P : Program} (w : World) (src dst e : TypeId) (hs : P.underlying src = some .string) (hd : P.underlying dst = some (.slice e)) (he : P.underlying e = some (.int .u8)) (l : List UInt8) (hl : l.length ≤ 140737488355328) :
    ∃ b cap w', (convert src dst (.string (bstr l))).run P w = .ok (.slice (some ⟨b, 0, none⟩) l.length cap) w' ∧ Srow w' 1 (some ⟨b, 0, none⟩) l.length cap (cellsOf l) (some b) ∧ OnlyNew w w' ∧ w.heap.size ≤ b := by
  have hr := Lib.run_convert_string_bytes (P := P) w src dst e (bstr l) hs hd he
  have hc := okCap (w := w) (c := 0) (e := e) hl
  have hsz : (bstr l).size = l.length := bstr_size l
  rw [hsz] at hr
  refine ⟨_, _, _, hr, .inr ⟨_, 0, rfl, rfl, hc.1, hc.2, by simp [cellsOf], by rw [Lib.bytesWorld_size]; omega, ?_, ?_, ?_⟩, (Chgd.refl _ _).bytes _ _, Nat.le_refl _⟩
  all_goals
    have hn := Lib.bytesWorld_at_new w e (bstr l)
    have hcs : (Lib.bytesCells w e (bstr l)).size = grownCap w l.length 0 e := by
      unfold Lib.bytesCells
      have : (bstr l).data.size = l.length := hsz
      simp [hsz, this]
      omega
  · intro j hj
    rw [Nat.mul_one, ← hcs] at hj
    exact ⟨_, by unfold World.cell?; rw [hn]; simp [hj]; rfl⟩
  · intro j hj
    rw [Nat.mul_one, ← hcs] at hj
    unfold World.frozen?
    rw [hn]
    simp
    omega
  · intro j u hj
    unfold World.cell?
    rw [hn]
    have hjl : j < l.length := by have := (List.getElem?_eq_some_iff.1 hj).1; simpa [cellsOf] using this
    have e1 : (Lib.bytesCells w e (bstr l)) = (cellsOf l).toArray ++ Array.replicate (grownCap w (bstr l).size 0 e - (bstr l).size) (.int .u8 0) := by
      unfold Lib.bytesCells cellsOf bstr
      simp
    rw [e1]
    simp only [Nat.zero_add]
    rw [Array.getElem?_append_left (by simp [cellsOf, hjl])]
    simpa using hj

section
variable {P : Program} {w : World} {ops : Array Oper} {o : Oper} {a : Act} {rest : List Oper} {Q : Exit → Act → World → Prop}
theorem wpList_bytes (hgd : o.guard = none) (src dst : TypeId) (x : Operand) (ho : o.op = .convert src dst x) (e : TypeId) (hs : P.underlying src = some .string) (hd : P.underlying dst = some (.slice e)) (he : P.underlying e = some (.int .u8))
    (l : List UInt8) (hl : l.length ≤ 140737488355328) (hx : a.eval x = .string (bstr l))
    (h : ∀ b cap w', Srow w' 1 (some ⟨b, 0, none⟩) l.length cap (cellsOf l) (some b) → OnlyNew w w' → w.heap.size ≤ b → wpList P ops Q rest (a.put o.dst (.slice (some ⟨b, 0, none⟩) l.length cap)) w') :
    wpList P ops Q (o :: rest) a w := by
  refine wpList_plain hgd fun _ hK => ?_
  obtain ⟨b, cap, w', hr, h1, h2, h3⟩ := run_bytes (P := P) w src dst e hs hd he l hl
  unfold Oper.wp execOp
  simp only [ho, hx, Sem.run_bind, hr, Result.andThen_ok, Sem.run_pure]
  exact hK _ _ (h b cap w' h1 h2 h3)
end

theorem zeroCells_byte (n : Nat) : Builtin.zeroCells #[.int .u8 0] n = Array.replicate n (.int .u8 0) := by
  unfold Builtin.zeroCells
  apply Array.ext
  · simp
  · intro i h1 h2
    simp [Nat.mod_one]

theorem run_firstCells_row {P : Program} (w : World) {ao : Option Addr} {n cap : Nat} {xs : List Value} {g : Option Nat} (hrow : Srow w 1 ao n cap xs g) :
    (Builtin.firstCells 1 n (.slice ao n cap)).run P w.drew = .ok xs.toArray w.drew := by
  have hrow := hrow.keep ((Chgd.refl (fun _ => False) w).drew) (fun _ _ h => h)
  rcases hrow with ⟨rfl, rfl, rfl, rfl, rfl⟩ | ⟨b, off, rfl, rfl, h3, h4, h5, hb, hc, hf, hx⟩
  · rfl
  · have := run_firstCells_some (P := P) (w := w.drew) 1 n ⟨b, off, none⟩ n cap xs (by omega) (fun j u hj => by rw [show (⟨b, off, none⟩ : Addr).add j = ⟨b, off + j, none⟩ by unfold Addr.add; split <;> simp_all]; exact hx j u hj)
    exact this

/-- append(b, make([]byte, k)...). -/
theorem run_appz {P : Program} (w : World) (t tn ty e : TypeId) (kn : IntKind) (i : TypeInfo) (ht : P.underlying t = some (.slice e)) (htn : P.underlying tn = some (.int kn)) (hi : P.info? e = some i) (hz : i.zero = some (.int .u8 0)) (hsize : i.size = 1) (hby : i.bytes = 1)
    (ao : Option Addr) (n cap : Nat) (xs : List Value) (g : Option Nat) (hrow : Srow w 1 ao n cap xs g) (k : Nat) (h0 : 0 < k) (hb : n + k ≤ 140737488355328) :
    ∃ ao' cap' g' w', (Builtin.append_ #[t, tn] ty #[.slice ao n cap, .int .i64 k]).run P w = .ok (.slice ao' (n + k) cap') w' ∧ Srow w' 1 ao' (n + k) cap' (xs ++ List.replicate k (.int .u8 0)) g' ∧ Chgd (fun b => g = some b) w w' ∧
      (g' = g ∨ ∃ b, g' = some b ∧ w.heap.size ≤ b) := by
  have hrow' := hrow
  by_cases hroom : n + k ≤ cap
  · rcases hrow with ⟨rfl, rfl, rfl, rfl, rfl⟩ | ⟨b, off, rfl, rfl, h3, h4, h5, hbb, hc, hf, hx⟩
    · omega
    · simp only [Nat.mul_one] at h5 hc hf
      have hl : (List.replicate k (Value.int .u8 0)).length = k := List.length_replicate
      have hst := run_storeCells_cells (P := P) b (off + n) (List.replicate k (.int .u8 0)) 0 w (fun j hj => by obtain ⟨u, hu⟩ := hc (n + j) (by omega); rw [show off + n + 0 + j = off + (n + j) by omega, hu]; rfl)
        (fun j hj => by rw [show off + n + 0 + j = off + (n + j) by omega]; exact hf _ (by omega)) (by intro u hu; rw [List.mem_replicate] at hu; rw [hu.2]; rfl)
      simp only [Nat.add_zero] at hst
      have hw : IntKind.i64.wrap (k : Int) = k := by rw [IntKind.wrap_i64]; omega
      have hneg : ¬ ((k : Int) < 0) := by omega
      have h48i : ¬ (281474976710656 < (k : Int)) := by omega
      have hzc : (Builtin.zeroCells #[.int .u8 0] k).toList = List.replicate k (.int .u8 0) := by rw [zeroCells_byte]; simp
      have hk0 : k ≠ 0 := by omega
      have hr : (Builtin.append_ #[t, tn] ty #[.slice (some ⟨b, off, none⟩) n cap, .int .i64 k]).run P w = .ok (.slice (some ⟨b, off, none⟩) (n + k) cap) (w.setCells b (off + n) (List.replicate k (.int .u8 0))) := by
        simp [Builtin.append_, run_underlying ht, run_underlying htn, sizeOf, typeInfo, zeroValue, hi, hz, hsize, hby, asInt, asIntOf, hw, hneg, h48i, hroom, hk0, Value.cells, hzc, Addr.add_lit, hst]
      refine ⟨_, _, _, _, hr, hrow'.wrote rfl n (n + k) _ (xs ++ List.replicate k (.int .u8 0)) (by omega) hroom (by rw [List.length_append, h5, hl]; omega) ?_, setCells_touch _ _ _ _ _ rfl, .inl rfl⟩
      intro j u hj
      by_cases hjx : j < xs.length
      · rw [List.getElem?_append_left hjx] at hj
        rw [if_neg (by omega)]; exact hj
      · rw [List.getElem?_append_right (by omega)] at hj
        have hjl : j - xs.length < k := by have := (List.getElem?_eq_some_iff.1 hj).1; omega
        rw [if_pos (by omega), ← h5]; exact hj
  · have hcap : cap ≤ maxLen := by
      rcases hrow with ⟨rfl, rfl, rfl, rfl, rfl⟩ | ⟨b, off, rfl, rfl, h3, h4, _⟩
      · exact Nat.zero_le _
      · exact h4
    have hnc : Builtin.nextslicecap (n + k) cap * i.bytes ≤ 281474976710656 := by
      rw [hby, Nat.mul_one]
      have := nextslicecap_le (need := n + k) (old := cap) (by omega)
      omega
    have hl := hrow.len
    have hr := Lib.run_append_grow_zeros (P := P) w t tn ty e i (.int .u8 0) .i64 kn ht htn hi hz ao n cap xs (by rw [hsize]; exact run_firstCells_row w hrow) k h0 (by omega) (by omega) (by omega) (by rw [hby]; omega) hnc
    have hcp := okCap (w := w) (n := n + k) (c := cap) (e := e) hb
    have hcells : xs.toArray ++ Builtin.zeroCells (Value.int .u8 0).cells k ++ Builtin.zeroCells (Value.int .u8 0).cells (grownCap w (n + k) cap e - (n + k)) = (xs ++ List.replicate k (Value.int .u8 0) ++ List.replicate (grownCap w (n + k) cap e - (n + k)) (Value.int .u8 0)).toArray := by
      show xs.toArray ++ Builtin.zeroCells #[.int .u8 0] k ++ Builtin.zeroCells #[.int .u8 0] _ = _
      rw [zeroCells_byte, zeroCells_byte]
      simp
    rw [hcells] at hr
    have hnew := Srow.new w.drew (xs ++ List.replicate k (Value.int .u8 0) ++ List.replicate (grownCap w (n + k) cap e - (n + k)) (Value.int .u8 0)).toArray e 1 (grownCap w (n + k) cap e) (by simp; omega) hcp.2
    refine ⟨_, _, some w.heap.size, _, hr, ?_, (Chgd.refl _ _).drew.alloc _, .inr ⟨_, rfl, Nat.le_refl _⟩⟩
    rcases hnew with ⟨h1, _⟩ | ⟨b, off, h1, h2, h3, h4, h5, hbb, hc, hf, hx⟩
    · cases h1
    · cases h2
      obtain ⟨rfl⟩ : off = 0 := by cases h1; rfl
      refine .inr ⟨_, 0, rfl, rfl, hcp.1, h4, by simp; omega, hbb, hc, hf, fun j u hj => hx j u ?_⟩
      have hjl := (List.getElem?_eq_some_iff.1 hj).1
      rw [List.getElem?_append_left hjl]
      exact hj

section
variable {P : Program} {w : World} {ops : Array Oper} {o : Oper} {a : Act} {rest : List Oper} {Q : Exit → Act → World → Prop}
theorem wpList_appz (hgd : o.guard = none) (s x : Operand) (t tn : TypeId) (ho : o.op = .call { callee := .builtin .append, args := #[s, x], argTypes := #[t, tn] })
    (e : TypeId) (kn : IntKind) (i : TypeInfo) (ht : P.underlying t = some (.slice e)) (htn : P.underlying tn = some (.int kn)) (hi : P.info? e = some i) (hz : i.zero = some (.int .u8 0)) (hsize : i.size = 1) (hby : i.bytes = 1)
    (ao : Option Addr) (n cap : Nat) (xs : List Value) (g : Option Nat) (hs : a.eval s = .slice ao n cap) (hrow : Srow w 1 ao n cap xs g) (k : Nat) (hx : a.eval x = .int .i64 k) (h0 : 0 < k) (hb : n + k ≤ 140737488355328)
    (h : ∀ ao' cap' g' w', Srow w' 1 ao' (n + k) cap' (xs ++ List.replicate k (.int .u8 0)) g' → Chgd (fun b => g = some b) w w' → (g' = g ∨ ∃ b, g' = some b ∧ w.heap.size ≤ b) → wpList P ops Q rest (a.put o.dst (.slice ao' (n + k) cap')) w') :
    wpList P ops Q (o :: rest) a w := by
  refine wpList_plain hgd fun _ hK => ?_
  obtain ⟨ao', cap', g', w', hr, h2, h3, h4⟩ := run_appz (P := P) w t tn o.type e kn i ht htn hi hz hsize hby ao n cap xs g hrow k h0 hb
  unfold Oper.wp execOp
  simp only [ho, resolve, invoke, builtin, Sem.run_bind, Sem.run_pure, Result.andThen_ok, List.map_toArray, List.map_cons, List.map_nil, hs, hx, hr]
  exact hK _ _ (h ao' cap' g' w' h2 h3 h4)
end
end Go.Proofs.YtomalanncdcopaaDoor.Mem
