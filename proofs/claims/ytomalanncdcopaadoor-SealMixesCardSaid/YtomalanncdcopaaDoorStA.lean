/- append, copy, make, []byte(s) on what is held; of no program. -/
import Derived.Test.YtomalanncdcopaaDoorStE
import Derived.Laws.MakeOwn
set_option linter.unusedSimpArgs false
set_option linter.unusedVariables false
namespace Go.Proofs.YtomalanncdcopaaDoor.St
open Go Go.RowKit Go.Proofs.YtomalanncdcopaaDoor.Mem

theorem Srow_lt {w : World} {size : Nat} {ao : Option Addr} {n cap : Nat} {xs : List Value} {g : Option Nat} (h : Srow w size ao n cap xs g) : ∀ k ∈ (Ent.sl size ao n cap xs g).fp, k < w.heap.size := by
  intro k hk
  simp only [Ent.fp, Option.mem_toList] at hk
  exact h.lt k hk
/-- A slice that is nil. -/
theorem St.nilsl {w0 w : World} {S : List Nat} {E : List Ent} (h : St w0 w S E) (size : Nat) : St w0 w S (.sl size none 0 0 [] none :: E) :=
  h.new (Chgd.refl _ w) _ (Srow.nil w size) (by simp [Ent.fp]) (by simp [Ent.fp])
theorem St.newsl {w0 w w' : World} {S : List Nat} {E : List Ent} (h : St w0 w S E) (hc : OnlyNew w w') {size : Nat} {ao : Option Addr} {n cap : Nat} {xs : List Value} {g : Option Nat} (hs : Srow w' size ao n cap xs g) (hn : ∀ k, g = some k → w.heap.size ≤ k) : St w0 w' S (.sl size ao n cap xs g :: E) :=
  h.new hc _ hs (Srow_lt hs) (by intro k hk; simp only [Ent.fp, Option.mem_toList] at hk; exact hn k hk)
theorem St.updsl {w0 w w' : World} {S : List Nat} {E : List Ent} (h : St w0 w S E) (i : Nat) {size : Nat} {ao : Option Addr} {n cap : Nat} {xs : List Value} {g : Option Nat} (hi : E[i]? = some (.sl size ao n cap xs g)) {ao' : Option Addr} {n' cap' : Nat} {xs' : List Value} {g' : Option Nat}
    (hs : Srow w' size ao' n' cap' xs' g') (hc : Chgd (fun k => g = some k) w w') (hg : g' = g ∨ ∃ k, g' = some k ∧ w.heap.size ≤ k) : St w0 w' S (E.set i (.sl size ao' n' cap' xs' g')) := by
  refine h.upd i hi _ (hc.mono (fun j _ hj => by simp [Ent.fp, hj])) hs (Srow_lt hs) ?_
  intro k hk
  simp only [Ent.fp, Option.mem_toList] at hk ⊢
  rcases hg with rfl | ⟨j, rfl, hj⟩
  · exact .inl hk
  · cases hk; exact .inr hj

section
variable {P : Program} {w0 w : World} {S : List Nat} {E : List Ent} {ρ : Operand → Value} {o : Oper} {x y : Operand}
/-- What an append to the slice k leaves. -/
def Appd (w0 : World) (S : List Nat) (E : List Ent) (k size n' : Nat) (ys : List Value) (v : Value) (w' : World) : Prop := ∃ ao' cap' g', v = .slice ao' n' cap' ∧ St w0 w' S (E.set k (.sl size ao' n' cap' ys g'))
theorem g_app (t e : TypeId) (hop : o.op = .call { callee := .builtin .append, args := #[x, y], argTypes := #[t, t] }) (z : Value) (size bytes : Nat) (ht : P.underlying t = some (.slice e)) (hi : (P.info? e).map (fun i => (i.zero, i.size, i.bytes)) = some (some z, size, bytes)) (hzs : z.cells.size = size) (hsz : 0 < size)
    {ao : Option Addr} {n cap : Nat} {xs : List Value} {g : Option Nat} (hx : ρ x = .slice ao n cap) (h : St w0 w S E) (k : Nat) (hk : E[k]? = some (.sl size ao n cap xs g))
    {B m c : Nat} {news : List Value} (hy : ρ y = .slice (some ⟨B, 0, none⟩) m c) (hr : Row w B 0 news) (hl : news.length = m * size) (h1 : ∀ u ∈ news, u.oneCell' = true)
    (hb : (n + m) * bytes ≤ 140737488355328) (hb0 : n + m ≤ 140737488355328) (n' : Nat) (hn' : n + m = n') (ys : List Value) (hys : xs ++ news = ys) :
    gives P (Appd w0 S E k size n' ys) ((execOp ρ o).run P w) := by
  refine ⟨?_⟩
  subst hn' hys
  cases hq : P.info? e with
  | none => simp [hq] at hi
  | some i =>
    simp only [hq, Option.map_some, Option.some.injEq, Prod.mk.injEq] at hi
    obtain ⟨hz, hs, hby⟩ := hi
    have hadd : ∀ j, (⟨B, 0, none⟩ : Addr).add j = ⟨B, j, none⟩ := fun j => by rw [add_at, Nat.zero_add]
    obtain ⟨ao', cap', g', w', hrun, h2, h3, h4⟩ := run_app (P := P) w t o.type e i z size bytes ht hq hz hs hby hzs hsz ao n cap xs g (h.srow k hk) ⟨B, 0, none⟩ m c news hl (fun j u hj => by rw [hadd]; exact hr.cell0 hj) h1 (by unfold maxLen; omega) hb
    unfold execOp
    simp only [hop, resolve, invoke, builtin, Sem.run_bind, Sem.run_pure, Result.andThen_ok, List.map_toArray, List.map_cons, List.map_nil, hx, hy, hrun]
    exact ⟨ao', cap', g', rfl, h.updsl k hk h2 h3 h4⟩
theorem g_apps (t u e : TypeId) (hop : o.op = .call { callee := .builtin .append, args := #[x, y], argTypes := #[t, u] }) (ht : P.underlying t = some (.slice e)) (hu : P.underlying u = some .string) (hi : (P.info? e).map (fun i => (i.zero, i.size, i.bytes)) = some (some (.int .u8 0), 1, 1))
    {ao : Option Addr} {n cap : Nat} {xs : List Value} {g : Option Nat} (hx : ρ x = .slice ao n cap) (h : St w0 w S E) (k : Nat) (hk : E[k]? = some (.sl 1 ao n cap xs g))
    {l : List UInt8} (hy : ρ y = .string (bstr l)) (hb : n + l.length ≤ 140737488355328) (n' : Nat) (hn' : n + l.length = n') (ys : List Value) (hys : xs ++ cellsOf l = ys) :
    gives P (Appd w0 S E k 1 n' ys) ((execOp ρ o).run P w) := by
  refine ⟨?_⟩
  subst hn' hys
  cases hq : P.info? e with
  | none => simp [hq] at hi
  | some i =>
    simp only [hq, Option.map_some, Option.some.injEq, Prod.mk.injEq] at hi
    obtain ⟨hz, hs, hby⟩ := hi
    obtain ⟨ao', cap', g', w', hrun, h2, h3, h4⟩ := run_app_str (P := P) w t u o.type e i ht hu hq hz hs hby ao n cap xs g (h.srow k hk) (bstr l) (by rw [bstr_size]; unfold maxLen; omega) (by rw [bstr_size]; omega)
    rw [bstr_size] at hrun h2
    unfold execOp
    simp only [hop, resolve, invoke, builtin, Sem.run_bind, Sem.run_pure, Result.andThen_ok, List.map_toArray, List.map_cons, List.map_nil, hx, hy, hrun]
    exact ⟨ao', cap', g', rfl, h.updsl k hk h2 h3 h4⟩
/-- []byte(s). -/
def NewSl (w0 w : World) (S : List Nat) (E : List Ent) (size n : Nat) (xs : List Value) (v : Value) (w' : World) : Prop := ∃ b cap, v = .slice (some ⟨b, 0, none⟩) n cap ∧ w.heap.size ≤ b ∧ St w0 w' S (.sl size (some ⟨b, 0, none⟩) n cap xs (some b) :: E)
theorem g_bytes {src dst : TypeId} (hop : o.op = .convert src dst x) {e : TypeId} (hs : P.underlying src = some .string) (hd : P.underlying dst = some (.slice e)) (he : P.underlying e = some (.int .u8)) {l : List UInt8} (hx : ρ x = .string (bstr l)) (hl : l.length ≤ 140737488355328) (h : St w0 w S E) :
    gives P (NewSl w0 w S E 1 l.length (cellsOf l)) ((execOp ρ o).run P w) := by
  refine ⟨?_⟩
  obtain ⟨b, cap, w', hr, h1, h2, h3⟩ := run_bytes (P := P) w src dst e hs hd he l hl
  unfold execOp
  simp only [hop, hx, Sem.run_bind, hr, Result.andThen_ok, Sem.run_pure]
  exact ⟨b, cap, rfl, h3, h.newsl h2 h1 (fun k hk => by cases hk; exact h3)⟩
/-- A slice literal: a row of its own. -/
def NewArr (w0 w : World) (S : List Nat) (E : List Ent) (n : Nat) (cs : List Value) (v : Value) (w' : World) : Prop := ∃ b, v = .slice (some ⟨b, 0, none⟩) n n ∧ w.heap.size ≤ b ∧ St w0 w' S (.row b cs :: E)
theorem g_bsl {t e : TypeId} {n : Nat} {parts : Array (Nat × Operand)} (hop : o.op = .buildSlice t n parts) (cs : List Value) (hr : ∀ w, (Instr.buildSlice t n (parts.map fun (i, x) => (i, ρ x))).run P w = .ok (.slice (some ⟨w.heap.size, 0, none⟩) n n) (w.alloc (.cells cs.toArray e))) (h : St w0 w S E) :
    gives P (NewArr w0 w S E n cs) ((execOp ρ o).run P w) := by
  refine ⟨?_⟩
  unfold execOp
  simp only [hop, Sem.run_bind, hr, Result.andThen_ok, Sem.run_pure]
  exact ⟨_, rfl, Nat.le_refl _, new_row h cs e⟩
/-- A row of its own becomes a slice. -/
theorem St.asSl {w0 w : World} {S : List Nat} {E : List Ent} (h : St w0 w S E) (i : Nat) {b : Nat} {cs : List Value} (hi : E[i]? = some (.row b cs)) (size n : Nat) (hn : cs.length = n * size) (hm : n ≤ 140737488355328) : St w0 w S (E.set i (.sl size (some ⟨b, 0, none⟩) n n cs (some b))) := by
  have hr := h.row i hi
  have hlt : b < w.heap.size := h.lt _ (List.mem_of_getElem? hi) b (by simp [Ent.fp])
  have hS : Srow w size (some ⟨b, 0, none⟩) n n cs (some b) := by
    refine .inr ⟨b, 0, rfl, rfl, Nat.le_refl _, by unfold maxLen; omega, hn, hlt, fun j hj => ?_, fun j hj => ?_, fun j u hj => hr.1 j u hj⟩
    · rw [← hn] at hj
      exact ⟨_, hr.cell (List.getElem?_eq_getElem hj)⟩
    · rw [← hn] at hj
      exact hr.free hj
  refine h.upd i hi _ (Chgd.refl _ w) hS (Srow_lt hS) ?_
  intro k hk
  simp only [Ent.fp, Option.mem_toList, List.mem_singleton, Option.some.injEq] at hk ⊢
  exact .inl hk.symm
/-- A slice literal, as a slice of its own. -/
theorem g_bslS {t e : TypeId} {n : Nat} {parts : Array (Nat × Operand)} (hop : o.op = .buildSlice t n parts) (cs : List Value) (hr : ∀ w, (Instr.buildSlice t n (parts.map fun (i, x) => (i, ρ x))).run P w = .ok (.slice (some ⟨w.heap.size, 0, none⟩) n n) (w.alloc (.cells cs.toArray e))) (size : Nat) (hn : cs.length = n * size) (hm : n ≤ 140737488355328) (h : St w0 w S E) :
    gives P (fun v w' => ∃ b, v = .slice (some ⟨b, 0, none⟩) n n ∧ w.heap.size ≤ b ∧ St w0 w' S (.sl size (some ⟨b, 0, none⟩) n n cs (some b) :: E)) ((execOp ρ o).run P w) :=
  (g_bsl hop cs hr h).mono fun _ _ ⟨b, h1, h2, h3⟩ => ⟨b, h1, h2, h3.asSl 0 rfl size n hn hm⟩
/-- make([]T, n), T of one cell. -/
theorem g_mk {n : Nat} {t e : TypeId} (hop : o.op = .makeSlice t x x) (hu : P.underlying t = some (.slice e)) (z : Value) (bytes : Nat) (hi : (P.info? e).map (fun i => (i.zero, i.size, i.bytes)) = some (some z, 1, bytes)) (hz : z.cells = #[z]) (hb : decide (bytes ≤ 8) = true) (hx : ρ x = .int .i64 (n : Int)) (hn : n ≤ 1000000000000) (h : St w0 w S E) (xs : List Value) (hxs : List.replicate n z = xs) :
    gives P (fun v w' => ∃ b, v = .slice (some ⟨b, 0, none⟩) n n ∧ w.heap.size ≤ b ∧ St w0 w' S (.sl 1 (some ⟨b, 0, none⟩) n n xs (some b) :: E)) ((execOp ρ o).run P w) := by
  subst hxs
  cases hq : P.info? e with
  | none => simp [hq] at hi
  | some i =>
    simp only [hq, Option.map_some, Option.some.injEq, Prod.mk.injEq] at hi
    obtain ⟨hz', hs, hby⟩ := hi
    have hb8 : bytes ≤ 8 := by simpa using hb
    have hmul : (i.bytes : Int) * (n : Int) ≤ 281474976710656 := by
      have : bytes * n ≤ 8 * 1000000000000 := Nat.mul_le_mul hb8 hn
      rw [hby]
      have h2 : ((bytes * n : Nat) : Int) ≤ 8 * 1000000000000 := by omega
      rw [Int.natCast_mul] at h2
      omega
    have hcells : madeCells z.cells ((n : Int).toNat * i.size) = (List.replicate n z).toArray := by
      rw [hs, hz]
      simp only [Int.toNat_natCast, Nat.mul_one]
      apply Array.ext
      · simp [madeCells]
      · intro j h1 h2
        simp [madeCells, Nat.mod_one]
    have hrun := run_make (P := P) w t e i z hu hq hz' .i64 .i64 n n (by omega) (Int.le_refl _) hmul (by omega)
    rw [hcells] at hrun
    simp only [Int.toNat_natCast] at hrun
    refine ⟨?_⟩
    unfold execOp
    simp only [hop, hx, Sem.run_bind, hrun, Result.andThen_ok, Sem.run_pure]
    exact ⟨_, rfl, Nat.le_refl _, (new_row h (List.replicate n z) e).asSl 0 rfl 1 n (by simp) (by omega)⟩
/-- copy(a[i:], s), all of s, or as much as there is room for. -/
theorem g_cps {dT sT elem : TypeId} (hop : o.op = .call { callee := .builtin .copy, args := #[x, y], argTypes := #[dT, sT] }) (hu : P.underlying dT = some (.slice elem)) (hsz : (P.info? elem).map (·.size) = some 1)
    {b off dLen dCap : Nat} (hx : ρ x = .slice (some ⟨b, off, none⟩) dLen dCap) {l : List UInt8} (hy : ρ y = .string (bstr l)) (hn : l.length ≤ dLen) (h : St w0 w S E) (k : Nat) {cs : List Value} (hk : E[k]? = some (.row b cs)) (pre mid post : List Value) (hcs : cs = pre ++ (mid ++ post)) (hp : pre.length = off) (hm : mid.length = l.length) (cs' : List Value) (hcs' : pre ++ (cellsOf l ++ post) = cs') :
    gives P (fun v w' => v = .int .i64 (l.length : Int) ∧ St w0 w' S (E.set k (.row b cs'))) ((execOp ρ o).run P w) := by
  refine ⟨?_⟩
  subst hcs hcs'
  have hr := h.row k hk
  have hl := Row.left hr
  have hmid := Row.left (Row.right hr)
  have hpost := Row.right (Row.right hr)
  rw [Nat.zero_add, hp] at hmid hpost
  have ht : w.there b off (bstr l).size := by rw [bstr_size, ← hm]; exact hmid.2
  have hrun := run_copy_str (P := P) w dT sT o.type elem b off dLen dCap (bstr l) hu hsz (by rw [bstr_size]; exact hn) ht
  unfold execOp
  simp only [hop, resolve, invoke, builtin, Sem.run_bind, Sem.run_pure, Result.andThen_ok, List.map_toArray, List.map_cons, List.map_nil, hx, hy, hrun]
  have hsc : Lib.strCells (bstr l) = cellsOf l := rfl
  have hc : ∀ j, j < (Lib.strCells (bstr l)).length → (w.cell? ⟨b, off + j, none⟩).isSome = true := fun j hj => (ht j (by rw [hsc, cellsOf_length] at hj; rw [bstr_size]; exact hj)).1
  have r2 : ∀ o' n, w.there b o' n → (w.setCells b off (Lib.strCells (bstr l))).there b o' n := fun o' n hn => there_set w b o' n b off _ hn hc
  have r3 : ∀ j, (j < off ∨ off + l.length ≤ j) → (w.setCells b off (Lib.strCells (bstr l))).cell? ⟨b, j, none⟩ = w.cell? ⟨b, j, none⟩ := fun j hj => World.cell?_setCells_out b _ off w ⟨b, j, none⟩ (fun _ _ => by rw [hsc, cellsOf_length]; simp; omega)
  refine ⟨by rw [bstr_size]; rfl, h.wrote k hk _ (setCells_touch _ _ _ _ _ rfl) ?_⟩
  refine Row.join (hl.beside r2 r3 (by omega)) ?_
  rw [Nat.zero_add, hp]
  refine Row.join ⟨range_set w b off _ hc, r2 off _ (by rw [cellsOf_length, ← hm]; exact hmid.2)⟩ ?_
  rw [cellsOf_length, ← hm]
  exact hpost.beside r2 r3 (by omega)
/-- copy(a[i:], b[:]), all of it. -/
theorem g_cpr {dT sT elem : TypeId} (hop : o.op = .call { callee := .builtin .copy, args := #[x, y], argTypes := #[dT, sT] }) (hu : P.underlying dT = some (.slice elem)) (hsz : (P.info? elem).map (·.size) = some 1)
    {b off dLen dCap : Nat} (hx : ρ x = .slice (some ⟨b, off, none⟩) dLen dCap) {b2 sLen sCap : Nat} (hy : ρ y = .slice (some ⟨b2, 0, none⟩) sLen sCap) {news : List Value} (hr2 : Row w b2 0 news) (hs2 : news.length = sLen) (hn : sLen ≤ dLen) (h1 : ∀ u ∈ news, u.oneCell' = true)
    (h : St w0 w S E) (k : Nat) {cs : List Value} (hk : E[k]? = some (.row b cs)) (pre mid post : List Value) (hcs : cs = pre ++ (mid ++ post)) (hp : pre.length = off) (hm : mid.length = sLen) (cs' : List Value) (hcs' : pre ++ (news ++ post) = cs') :
    gives P (fun v w' => v = .int .i64 (sLen : Int) ∧ St w0 w' S (E.set k (.row b cs'))) ((execOp ρ o).run P w) := by
  refine ⟨?_⟩
  subst hcs hs2 hcs'
  have hr := h.row k hk
  have hl := Row.left hr
  have hmid := Row.left (Row.right hr)
  have hpost := Row.right (Row.right hr)
  rw [Nat.zero_add, hp] at hmid hpost
  have ht : w.there b off news.length := by rw [← hm]; exact hmid.2
  refine Lin2.gives_old (gives_copy x y dT sT hop elem hu hsz b off dLen dCap hx b2 0 news.length sCap hy news (Nat.min_eq_left hn).symm hr2.1 ht h1 (fun w' r1 r2 r3 r4 => ⟨rfl, h.wrote k hk _ r4 ?_⟩))
  refine Row.join (hl.beside r2 r3 (by omega)) ?_
  rw [Nat.zero_add, hp]
  refine Row.join ⟨r1, r2 off _ ht⟩ ?_
  have r3' : ∀ j, (j < off ∨ off + mid.length ≤ j) → w'.cell? ⟨b, j, none⟩ = w.cell? ⟨b, j, none⟩ := by rw [hm]; exact r3
  rw [← hm]
  exact hpost.beside r2 r3' (by omega)
end
end Go.Proofs.YtomalanncdcopaaDoor.St
