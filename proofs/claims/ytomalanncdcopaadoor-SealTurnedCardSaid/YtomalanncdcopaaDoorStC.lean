/- Control: sequences, blocks, loops with a number that goes down, calls by contract, the end of a function; of no program. -/
import Derived.Test.YtomalanncdcopaaDoorStA
set_option linter.unusedSimpArgs false
set_option linter.unusedVariables false
namespace Go.Proofs.YtomalanncdcopaaDoor.St
open Go Go.RowKit Go.Proofs.YtomalanncdcopaaDoor.Mem

theorem least {p : Nat → Prop} (h : ∃ n, p n) : ∃ n, p n ∧ ∀ m, p m → n ≤ m := by
  obtain ⟨n, hn⟩ := h
  induction n using Nat.strongRecOn with
  | _ n ih =>
    by_cases hx : ∃ m, m < n ∧ p m
    · obtain ⟨m, h1, h2⟩ := hx
      exact ih m h1 h2
    · exact ⟨n, hn, fun m hm => Nat.le_of_not_lt fun hlt => hx ⟨m, hlt, hm⟩⟩
section
variable {P : Program} {Q : Exit → Act → World → Prop} {a : Act} {w : World}
open Classical in
theorem loopI {c : Code} (I : Nat → Act → World → Prop) (n : Nat) (h0 : I n a w) (round : ∀ n a w, I n a w → c.wp P (Exit.then (fun a' w' => ∃ m, m < n ∧ I m a' w') Q) a w) : (Code.loop c).wp P Q a w := by
  refine wp_loop (fun a w => ∃ n, I n a w) (fun a w => if h : ∃ n, I n a w then Classical.choose (least h) else 0) ⟨n, h0⟩ (fun a w hI => ?_)
  have hs := Classical.choose_spec (least hI)
  refine wp_mono (round _ a w hs.1) (fun e a' w' q => ?_)
  cases e with
  | normal =>
    obtain ⟨m, hm, hIm⟩ := q
    refine ⟨⟨m, hIm⟩, ?_⟩
    have hex : ∃ n, I n a' w' := ⟨m, hIm⟩
    show (if h : ∃ n, I n a' w' then Classical.choose (least h) else 0) < (if h : ∃ n, I n a w then Classical.choose (least h) else 0)
    rw [dif_pos hex, dif_pos hI]
    exact Nat.lt_of_le_of_lt ((Classical.choose_spec (least hex)).2 m hIm) hm
  | _ => exact q
theorem then_n {next : Act → World → Prop} (h : next a w) : Exit.then next Q .normal a w := h
theorem then_e {next : Act → World → Prop} {i : Nat} (h : Q (.exit i) a w) : Exit.then next Q (.exit i) a w := h
theorem then_r {next : Act → World → Prop} (h : Q .ret a w) : Exit.then next Q .ret a w := h
theorem inb_n {i : Nat} (h : Q .normal a w) : Exit.inBlock i Q .normal a w := h
theorem inb_r {i : Nat} (h : Q .ret a w) : Exit.inBlock i Q .ret a w := h
theorem inb_h {i : Nat} (h : Q .normal a w) : Exit.inBlock i Q (.exit i) a w := by simpa [Exit.inBlock] using h
theorem inb_p {i j : Nat} (hn : j ≠ i) (h : Q (.exit j) a w) : Exit.inBlock i Q (.exit j) a w := by simpa [Exit.inBlock, hn] using h
/-- The end of a plain region: the frame, written out. -/
theorem fin {ops : Array Oper} (a' : Act) (h : a = a') (k : Q .normal a' w) : WL P ops Q [] a w := by subst h; exact ⟨k⟩
theorem finQ {e : Exit} (a' : Act) (h : a = a') (k : Q e a' w) : Q e a w := by subst h; exact k
theorem scall {ops : Array Oper} {rest : List Oper} {o : Oper} {F : FuncId} {A : Array Value} {R : Ending → World → Prop} (hg : o.guard = none) (hop : (execOp a.eval o).run P w = .ok (.enter F A) w) (hc : Calls P F A w R)
    (k : ∀ r w', R r w' → ∃ v, r = .returned v ∧ WL P ops Q rest (a.put o.dst v) w') : WL P ops Q (o :: rest) a w :=
  sg hg (g_call hop hc k) (fun _ _ h => h)
theorem scallq {ops : Array Oper} {rest : List Oper} {o : Oper} {F : FuncId} {A : Array Value} {R : Ending → World → Prop} (hg : Region.wanted o (yielded ops a.tmps) = true) (hop : (execOp a.eval o).run P w = .ok (.enter F A) w) (hc : Calls P F A w R)
    (k : ∀ r w', R r w' → ∃ v, r = .returned v ∧ WL P ops Q rest (a.put o.dst v) w') : WL P ops Q (o :: rest) a w :=
  sgq hg (g_call hop hc k) (fun _ _ h => h)
theorem res0 {fn : Func} (h : fn.results = #[]) (tmps : Array Value) : (results fn tmps).run P w = .ok (.tuple #[]) w := by simp [results, h]
theorem res1 {fn : Func} {t : Tmp} (h : fn.results = #[.tmp t]) (tmps : Array Value) (v : Value) (hv : tmps.getD t undef = v) : (results fn tmps).run P w = .ok v w := by
  rw [results_tmp h, hv]
theorem resc {fn : Func} {p : Tmp} {ty : TypeId} (h : fn.results = #[.cell p ty]) (tmps : Array Value) {b : Nat} (hp : tmps.getD p undef = .pointer (some ⟨b, 0, none⟩)) (d : TypeDesc) (hu : P.underlying ty = some d) (hd : d.isRow = true) (n : Nat) (hn : (P.info? ty).map (·.size) = some n) {cs : List Value} (hr : Row w b 0 cs) (hl : cs.length = n) :
    (results fn tmps).run P w = .ok (.agg cs.toArray) w :=
  results_cell_mid h tmps w b 0 cs d hp hr.1 hu hd (by rw [hl]; exact hn)
theorem ent0 {c : Code} (a' : Act) (h : a = a') (k : c.wp P Q a' w) : c.wp P Q a w := by subst h; exact k
theorem res1c (w : World) (p : Tmp) (ty : TypeId) (tmps : Array Value) {b : Nat} (hp : tmps.getD p undef = .pointer (some ⟨b, 0, none⟩)) (hag : ∀ w, (isAgg ty).run P w = .ok false w) {cs : List Value} (hr : Row w b 0 cs) {v : Value} (hv : cs[0]? = some v) :
    (loadVar ty ⟨b, 0, none⟩).run P w = .ok v w := by
  have hc := hr.cell0 hv
  simp [loadVar, hag, hc]
theorem resc1 {fn : Func} {p : Tmp} {ty : TypeId} (h : fn.results = #[.cell p ty]) (tmps : Array Value) {b : Nat} (hp : tmps.getD p undef = .pointer (some ⟨b, 0, none⟩)) (hag : ∀ w, (isAgg ty).run P w = .ok false w) {cs : List Value} (hr : Row w b 0 cs) {v : Value} (hv : cs[0]? = some v) :
    (results fn tmps).run P w = .ok v w := by
  have hp' : tmps[p]?.getD undef = .pointer (some ⟨b, 0, none⟩) := by simpa using hp
  have := res1c (P := P) w p ty tmps hp hag hr hv
  simp [results, h, hp', asAddr, this]
theorem resct {fn : Func} {p u : Tmp} {ty : TypeId} (h : fn.results = #[.cell p ty, .tmp u]) (tmps : Array Value) {b : Nat} (hp : tmps.getD p undef = .pointer (some ⟨b, 0, none⟩)) (d : TypeDesc) (hu : P.underlying ty = some d) (hd : d.isRow = true) (n : Nat) (hn : (P.info? ty).map (·.size) = some n) {cs : List Value} (hr : Row w b 0 cs) (hl : cs.length = n) {v : Value} (hv : tmps.getD u undef = v) :
    (results fn tmps).run P w = .ok (.tuple #[.agg cs.toArray, v]) w := by
  subst hv
  exact results_cell_mid_tmp h tmps w b 0 cs d hp hr.1 hu hd (by rw [hl]; exact hn)
theorem resot {fn : Func} {p u : Tmp} {ty : TypeId} (h : fn.results = #[.cell p ty, .tmp u]) (tmps : Array Value) {b : Nat} (hp : tmps.getD p undef = .pointer (some ⟨b, 0, none⟩)) (hag : ∀ w, (isAgg ty).run P w = .ok false w) {cs : List Value} (hr : Row w b 0 cs) {v : Value} (hv : cs[0]? = some v) {x : Value} (hx : tmps.getD u undef = x) :
    (results fn tmps).run P w = .ok (.tuple #[v, x]) w := by
  subst hx
  have hp' : tmps[p]?.getD undef = .pointer (some ⟨b, 0, none⟩) := by simpa using hp
  have := res1c (P := P) w p ty tmps hp hag hr hv
  simp [results, h, hp', asAddr, this]
theorem rescc {fn : Func} {p q : Tmp} {ty tz : TypeId} (h : fn.results = #[.cell p ty, .cell q tz]) (tmps : Array Value) {b c : Nat} (hp : tmps.getD p undef = .pointer (some ⟨b, 0, none⟩)) (hq : tmps.getD q undef = .pointer (some ⟨c, 0, none⟩)) (hag : ∀ w, (isAgg ty).run P w = .ok false w) (hag2 : ∀ w, (isAgg tz).run P w = .ok false w)
    {cs ds : List Value} (hr : Row w b 0 cs) {v : Value} (hv : cs[0]? = some v) (hr2 : Row w c 0 ds) {x : Value} (hx : ds[0]? = some x) :
    (results fn tmps).run P w = .ok (.tuple #[v, x]) w := by
  have hp' : tmps[p]?.getD undef = .pointer (some ⟨b, 0, none⟩) := by simpa using hp
  have hq' : tmps[q]?.getD undef = .pointer (some ⟨c, 0, none⟩) := by simpa using hq
  have h1 := res1c (P := P) w p ty tmps hp hag hr hv
  have h2 := res1c (P := P) w q tz tmps hq hag2 hr2 hx
  simp [results, h, hp', hq', asAddr, h1, h2]
theorem resac {fn : Func} {p q : Tmp} {ty tz : TypeId} (h : fn.results = #[.cell p ty, .cell q tz]) (tmps : Array Value) {b c : Nat} (hp : tmps.getD p undef = .pointer (some ⟨b, 0, none⟩)) (d : TypeDesc) (hu : P.underlying ty = some d) (hd : d.isRow = true) (n : Nat) (hn : (P.info? ty).map (·.size) = some n) {cs : List Value} (hr : Row w b 0 cs) (hl : cs.length = n)
    (hq : tmps.getD q undef = .pointer (some ⟨c, 0, none⟩)) (hag2 : ∀ w, (isAgg tz).run P w = .ok false w) {ds : List Value} (hr2 : Row w c 0 ds) {x : Value} (hx : ds[0]? = some x) :
    (results fn tmps).run P w = .ok (.tuple #[.agg cs.toArray, x]) w := by
  have hp' : tmps[p]?.getD undef = .pointer (some ⟨b, 0, none⟩) := by simpa using hp
  have hq' : tmps[q]?.getD undef = .pointer (some ⟨c, 0, none⟩) := by simpa using hq
  have h1 := run_loadVar_mid (P := P) w b 0 ty cs d hr.1 hu hd (by rw [hl]; exact hn)
  have h2 := res1c (P := P) w q tz tmps hq hag2 hr2 hx
  simp [results, h, hp', hq', asAddr, h1, h2]
end
/-! ### What holds at each stage of a region that draws its order -/
def Ent.big (N : Nat) : Ent := .any [] (fun w => N ≤ w.heap.size) (fun _ _ _ h hc _ _ => Nat.le_trans h hc.size)
def StK (w0 : World) (S : List Nat) (Es : List (List Ent)) (k : Nat) (w : World) : Prop := St w0 w S (Es.getD k [])
theorem StK.quiet {w0 : World} {S : List Nat} {Es : List (List Ent)} : ∀ k w w', StK w0 S Es k w → OnlyNew w w' → StK w0 S Es k w' := fun _ _ _ h hc => St.quiet h hc
theorem St.snoc {w0 w : World} {S : List Nat} {E : List Ent} (h : St w0 w S E) (e : Ent) (he : e.holds w) (hf : e.fp = []) : St w0 w S (E ++ [e]) := by
  refine ⟨h.chg, ?_, ?_, ?_, ?_⟩
  · intro f hf'
    rcases List.mem_append.1 hf' with h1 | h1
    · exact h.hold f h1
    · rw [List.mem_singleton.1 h1]; exact he
  · intro f hf' k hk
    rcases List.mem_append.1 hf' with h1 | h1
    · exact h.lt f h1 k hk
    · rw [List.mem_singleton.1 h1, hf] at hk; cases hk
  · intro f hf' k hk
    rcases List.mem_append.1 hf' with h1 | h1
    · exact h.own f h1 k hk
    · rw [List.mem_singleton.1 h1, hf] at hk; cases hk
  · rw [List.pairwise_append]
    refine ⟨h.apart, by simp, fun f _ g hg k _ hk2 => ?_⟩
    rw [List.mem_singleton.1 hg, hf] at hk2; cases hk2
theorem St.big {w0 w : World} {S : List Nat} {E : List Ent} (h : St w0 w S E) : St w0 w S (E ++ [.big w.heap.size]) := h.snoc _ (Nat.le_refl _) rfl
theorem St.unbig {w0 w : World} {S : List Nat} {E : List Ent} {e : Ent} (h : St w0 w S (E ++ [e])) : St w0 w S E := h.sub (List.sublist_append_left E [e])
theorem St.chgT {w0 w w' : World} {S : List Nat} {E E' : List Ent} (h : St w0 w S E) (h' : St w0 w' S E') {i : Nat} (hi : E'[i]? = some (.big w.heap.size)) : Chgd (fun _ => True) w w' :=
  ⟨h'.chg.os.trans h.chg.os.symm, h'.chg.tape.trans h.chg.tape.symm, h'.chg.output.trans h.chg.output.symm, h'.hold _ (List.mem_of_getElem? hi), fun _ _ hn => (hn trivial).elim⟩
theorem St.dropn {w0 w : World} {S : List Nat} {E : List Ent} (n : Nat) (h : St w0 w S E) : St w0 w S (E.drop n) := h.sub (List.drop_sublist n E)
theorem St.newrow {w0 w w' : World} {S : List Nat} {E : List Ent} (h : St w0 w S E) (hc : OnlyNew w w') {b : Nat} {cs : List Value} (hr : Row w' b 0 cs) (hl : 0 < cs.length) (hn : w.heap.size ≤ b) : St w0 w' S (.row b cs :: E) :=
  h.new hc (.row b cs) hr (by have := hr.lt hl; simpa [Ent.fp] using this) (by simpa [Ent.fp] using hn)
theorem St.updp {w0 w w' : World} {S : List Nat} {E : List Ent} (h : St w0 w S E) (i : Nat) {e : Ent} {p : Nat} (hi : E[i]? = some e) (he : e.fp = [p]) (hc : Chgd (fun k => k = p) w w') (e' : Ent) (hh : e'.holds w') (he' : e'.fp = [p]) : St w0 w' S (E.set i e') := by
  have hlt : p < w.heap.size := h.lt e (List.mem_of_getElem? hi) p (by simp [he])
  refine h.upd i hi e' (hc.mono (fun j _ hj => by simp [he, hj])) hh ?_ ?_
  · intro k hk
    rw [he'] at hk
    rw [List.mem_singleton.1 hk]
    exact Nat.lt_of_lt_of_le hlt hc.size
  · intro k hk
    rw [he'] at hk
    exact .inl (by rw [he]; exact hk)
theorem St.reseg {w0 w : World} {S : List Nat} {E : List Ent} (h : St w0 w S E) (i : Nat) {b : Nat} {cs cs' : List Value} (hi : E[i]? = some (.row b cs)) (he : cs = cs') : St w0 w S (E.set i (.row b cs')) := by
  subst he
  exact h.wrote i hi cs (Chgd.refl _ w) (h.row i hi)
theorem cellsOf_all : ∀ (l : List UInt8), (cellsOf l).all (·.oneCell') = true := fun l => List.all_eq_true.2 (cellsOf_one l)
theorem ones_of {cs : List Value} (h : cs.all (·.oneCell') = true) : ∀ v ∈ cs, v.oneCell' = true := List.all_eq_true.1 h

section
open Lin2 (Env Walk Know soft hi lo over bef nth dstAt uniq put)
variable {X : Env} {Q : Act → World → Prop} {o : Oper} {rest : List Oper} {j : Nat} {F : List Know} {S : Act}
theorem walk_callS (ts : List Tmp) (v : Value) (a b : Nat) (ha : lo X.m X.effs j = a) (hb : hi X.m X.effs j = b) (hs : soft X.l X.fx j o = ts) (he : X.effs.contains j = false)
    (hw : ∀ f, Region.wanted o (yielded X.l.toArray (over S ts f).tmps) = true)
    (hr : ∀ f w k, (∀ i, i < j → bef X.m j i = true → (nth F j i).holds (dstAt X.l i) f w k) → Chgd X.S X.w0 w → a ≤ k → k ≤ b → X.I k w → gives X.P (fun u w' => u = v ∧ OnlyNew w w') ((execOp (over S ts f).eval o).run X.P w))
    (h : ∀ S', S' = S.put o.dst v → Walk X Q rest (j + 1) (.det v :: F) S') : Walk X Q (o :: rest) j F S :=
  Lin2.walk_call ts v a b ha hb hs he hw (fun f w k h1 h2 h3 h4 h5 => (hr f w k h1 h2 h3 h4 h5).out) h
theorem walk_factS (ts : List Tmp) (d : Tmp) (G : Value → World → Nat → Prop) (a b : Nat) (ha : lo X.m X.effs j = a) (hb : hi X.m X.effs j = b) (hd : o.dst = some d) (hx : X.fx.contains j = true) (hs : soft X.l X.fx j o = ts) (he : X.effs.contains j = false)
    (hj : dstAt X.l j = some d) (hu : uniq X.l = true) (hw : ∀ f, Region.wanted o (yielded X.l.toArray (over S ts f).tmps) = true)
    (hG : ∀ v w w' k, G v w k → OnlyNew w w' → G v w' k)
    (hr : ∀ f w k, (∀ i, i < j → bef X.m j i = true → (nth F j i).holds (dstAt X.l i) f w k) → Chgd X.S X.w0 w → a ≤ k → k ≤ b → X.I k w → gives X.P (fun u w' => G u w' k ∧ OnlyNew w w') ((execOp (over S ts f).eval o).run X.P w))
    (h : ∀ S', S' = S.put o.dst undef → Walk X Q rest (j + 1) (.fact [d] (fun vs w k => ∃ v, vs = [v] ∧ G v w k) :: F) S') : Walk X Q (o :: rest) j F S :=
  Lin2.walk_fact ts d G a b ha hb hd hx hs he hj hu hw hG (fun f w k h1 h2 h3 h4 h5 => (hr f w k h1 h2 h3 h4 h5).out) h
theorem walk_effS (ts : List Tmp) (v : Value) (a : Nat) (ha : lo X.m X.effs j = a) (hb : hi X.m X.effs j = a) (hs : soft X.l X.fx j o = ts) (he : X.effs.contains j = true)
    (hw : ∀ f, Region.wanted o (yielded X.l.toArray (over S ts f).tmps) = true)
    (hr : ∀ f w, (∀ i, i < j → bef X.m j i = true → (nth F j i).holds (dstAt X.l i) f w a) → Chgd X.S X.w0 w → X.I a w →
      gives X.P (fun u w' => u = v ∧ Chgd X.S X.w0 w' ∧ X.I (a + 1) w' ∧ ∀ i, i ∈ X.fx → i < j → bef X.m j i = true → (nth F j i).holds (dstAt X.l i) f w' (a + 1)) ((execOp (over S ts f).eval o).run X.P w))
    (h : ∀ S', S' = S.put o.dst v → Walk X Q rest (j + 1) (.det v :: F) S') : Walk X Q (o :: rest) j F S :=
  Lin2.walk_eff ts v a ha hb hs he hw (fun f w h1 h2 h3 => (hr f w h1 h2 h3).out) h
theorem ok_quiet {P : Program} {v : Value} {w : World} {r : Result Next} (h : r = .ok (.value v) w) : gives P (fun u w' => u = v ∧ OnlyNew w w') r := ⟨Lin2.gives_ok h⟩
end
end Go.Proofs.YtomalanncdcopaaDoor.St
