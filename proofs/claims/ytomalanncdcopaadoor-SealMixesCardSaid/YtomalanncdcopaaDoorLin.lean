/- Regions that draw their order: one walk of the text's order serves every order; an operation's value is known as a value, or by a predicate that later steps keep. Of no program. -/
import Derived.Test.YtomalanncdcopaaDoorMem
import Derived.Orders
set_option linter.unusedSimpArgs false
set_option linter.unusedVariables false
namespace Go.Proofs.YtomalanncdcopaaDoor.Lin
open Go Go.Proofs.YtomalanncdcopaaDoor.Mem

/-- What is known of an operation's value. -/
inductive Know where
  | det (v : Value)
  | fact (ts : List Tmp) (F : List Value → World → Prop)
def Know.isDet : Know → Bool
  | .det _ => true
  | _ => false
def Know.val : Know → Value
  | .det v => v
  | _ => undef
def tv (a : Act) (t : Tmp) : Value := a.tmps.getD t undef
def Know.holds (κ : Know) (dst : Option Tmp) (f : Tmp → Value) (w : World) : Prop :=
  match κ with
  | .det v => ∀ d, dst = some d → f d = v
  | .fact ts F => F (ts.map f) w

/-! ### What the kernel looks at -/
def edges (o : Oper) : List Nat := o.after.toList.filterMap fun e => if Region.binds .any e then some e.on else none
def dstAt (l : List Oper) (i : Nat) : Option Tmp := (l[i]?).bind (·.dst)
/-- i is ahead of j in every order ('m': for each operation, those ahead of it, as bits). -/
def bef (m : List Nat) (j i : Nat) : Bool := (m.getD j 0).testBit i
def maskOK (l : List Oper) (m : List Nat) : Bool :=
  (List.range l.length).all fun j => match l[j]? with
    | none => true
    | some o => (edges o).all (fun e => decide (e < j)) && m.getD j 0 == (edges o).foldl (fun s e => s ||| 2 ^ e ||| m.getD e 0) 0
def uniq (l : List Oper) : Bool := (List.range l.length).all fun j => (List.range j).all fun i => match dstAt l i, dstAt l j with
  | some x, some y => x != y
  | _, _ => true
def looks (l : List Oper) (o : Oper) : List Tmp := o.looksAt l.toArray
/-- Operation j sees in t what the text's order lays there; or t is written by an operation of 'fx', known by a predicate. -/
def seesOK (l : List Oper) (m : List Nat) (j : Nat) (t : Tmp) : Bool :=
  (List.range l.length).all fun i => match dstAt l i with
    | some d => d != t || (m.getD j 0).testBit i || (m.getD i 0).testBit j || i == j
    | none => true
/-- The temporaries that operation o looks at and that are written ahead of it by an operation of 'fx'. -/
def soft (l : List Oper) (fx : List Nat) (j : Nat) (o : Oper) : List Tmp := (looks l o).filter fun t => fx.any fun i => decide (i < j) && (dstAt l i == some t)
def check (l : List Oper) (m : List Nat) (effs : List Nat) (n : Nat) : Bool :=
  Region.noSelect l.toArray && maskOK l m && uniq l && (l.all fun o => match o.dst with | some d => decide (d < n) | none => true) &&
    (l.zipIdx.all fun (o, j) => (looks l o).all fun t => seesOK l m j t) && decide effs.Nodup && effs.all (fun e => decide (e < l.length))
def lo (m : List Nat) (effs : List Nat) (j : Nat) : Nat := (effs.filter fun e => bef m j e).length
def hi (m : List Nat) (effs : List Nat) (j : Nat) : Nat := (effs.filter fun e => !(e == j || bef m e j)).length

theorem fold_testBit (m : List Nat) (i : Nat) : ∀ (es : List Nat) (s : Nat), (es.foldl (fun s e => s ||| 2 ^ e ||| m.getD e 0) s).testBit i = (s.testBit i || es.any fun e => e == i || (m.getD e 0).testBit i) := by
  intro es
  induction es with
  | nil => intro s; simp
  | cons e es ih =>
    intro s
    rw [List.foldl_cons, ih, List.any_cons, Nat.testBit_or, Nat.testBit_or, Nat.testBit_two_pow]
    by_cases h : e = i
    · subst h; simp
    · have h' : (e == i) = false := by simpa using h
      simp [h', h, Bool.or_assoc]

section
variable {l : List Oper} {m effs : List Nat} {n : Nat}

theorem check_mask (h : check l m effs n = true) : maskOK l m = true := by unfold check at h; simp only [Bool.and_eq_true] at h; exact h.1.1.1.1.1.2
theorem check_sel (h : check l m effs n = true) : Region.noSelect l.toArray = true := by unfold check at h; simp only [Bool.and_eq_true] at h; exact h.1.1.1.1.1.1
theorem check_uniq (h : check l m effs n = true) {i j : Nat} {d : Tmp} (hi : dstAt l i = some d) (hj : dstAt l j = some d) : i = j := by
  unfold check at h
  simp only [Bool.and_eq_true] at h
  have hu := h.1.1.1.1.2
  have hlt : ∀ {k}, dstAt l k = some d → k < l.length := by
    intro k hk
    apply Nat.lt_of_not_le
    intro hle
    unfold dstAt at hk
    rw [List.getElem?_eq_none hle] at hk
    cases hk
  have key : ∀ {i j : Nat}, dstAt l i = some d → dstAt l j = some d → ¬ i < j := by
    intro i j hi hj hij
    unfold uniq at hu
    rw [List.all_eq_true] at hu
    have h1 := hu j (List.mem_range.2 (hlt hj))
    rw [List.all_eq_true] at h1
    have h2 := h1 i (List.mem_range.2 hij)
    rw [hi, hj] at h2
    simp at h2
  rcases Nat.lt_trichotomy i j with h1 | h1 | h1
  · exact absurd h1 (key hi hj)
  · exact h1
  · exact absurd h1 (key hj hi)
theorem check_lt (h : check l m effs n = true) {j : Nat} {d : Tmp} (hj : dstAt l j = some d) : d < n := by
  unfold check at h
  simp only [Bool.and_eq_true] at h
  have ha := h.1.1.1.2
  unfold dstAt at hj
  cases ho : l[j]? with
  | none => rw [ho] at hj; cases hj
  | some o =>
    rw [ho] at hj
    have hm := List.mem_of_getElem? ho
    have := List.all_eq_true.1 ha o hm
    simp only [Option.bind_some] at hj
    rw [hj] at this
    simpa using this
theorem check_sees (h : check l m effs n = true) {j : Nat} {o : Oper} (ho : l[j]? = some o) {t : Tmp} (ht : t ∈ looks l o) {i : Nat} (hi : dstAt l i = some t) :
    bef m j i = true ∨ bef m i j = true ∨ i = j := by
  unfold check at h
  simp only [Bool.and_eq_true] at h
  have h1 := List.all_eq_true.1 h.1.1.2 (o, j) (List.mem_zipIdx_iff_getElem?.2 (by simpa using ho))
  have h2 := List.all_eq_true.1 h1 t ht
  unfold seesOK at h2
  have hlt : i < l.length := by
    apply Nat.lt_of_not_le
    intro hle
    unfold dstAt at hi
    rw [List.getElem?_eq_none hle] at hi
    cases hi
  have h3 := List.all_eq_true.1 h2 i (List.mem_range.2 hlt)
  rw [hi] at h3
  simp only [bne_self_eq_false, Bool.false_or, Bool.or_eq_true, beq_iff_eq] at h3
  unfold bef
  rcases h3 with (h3 | h3) | h3
  · exact .inl h3
  · exact .inr (.inl h3)
  · exact .inr (.inr h3)

theorem mask_spec (h : maskOK l m = true) {j : Nat} {o : Oper} (ho : l[j]? = some o) :
    (∀ e ∈ edges o, e < j ∧ bef m j e = true) ∧ ∀ i, bef m j i = true → ∃ e ∈ edges o, e = i ∨ bef m e i = true := by
  unfold maskOK at h
  rw [List.all_eq_true] at h
  have hlt : j < l.length := (List.getElem?_eq_some_iff.1 ho).1
  have h1 := h j (List.mem_range.2 hlt)
  rw [ho] at h1
  simp only [Bool.and_eq_true, List.all_eq_true, decide_eq_true_eq, beq_iff_eq] at h1
  obtain ⟨h2, h3⟩ := h1
  unfold bef
  refine ⟨fun e he => ⟨h2 e he, ?_⟩, fun i hi => ?_⟩
  · rw [h3, fold_testBit]
    simp only [Nat.zero_testBit, Bool.false_or, List.any_eq_true, Bool.or_eq_true, beq_iff_eq]
    exact ⟨e, he, .inl rfl⟩
  · rw [h3, fold_testBit] at hi
    simp only [Nat.zero_testBit, Bool.false_or, List.any_eq_true, Bool.or_eq_true, beq_iff_eq] at hi
    exact hi

def Closed (l : List Oper) (D : Array Bool) : Prop := ∀ (j : Nat) (o : Oper), l[j]? = some o → D.getD j false = true → ∀ e ∈ edges o, D.getD e false = true

theorem bef_lt (h : maskOK l m = true) : ∀ (j i : Nat) (o : Oper), l[j]? = some o → bef m j i = true → i < j := by
  intro j
  induction j using Nat.strongRecOn with
  | ind j ih =>
    intro i o ho hb
    obtain ⟨h1, h2⟩ := mask_spec h ho
    obtain ⟨e, he, rfl | hb'⟩ := h2 i hb
    · exact (h1 e he).1
    · have hej := (h1 e he).1
      have hlt : j < l.length := (List.getElem?_eq_some_iff.1 ho).1
      have := ih e hej i l[e] (List.getElem?_eq_getElem (by omega)) hb'
      omega
theorem bef_listed (h : maskOK l m = true) {D : Array Bool} (hD : Closed l D) : ∀ (j : Nat) (o : Oper), l[j]? = some o → (∀ e ∈ edges o, D.getD e false = true) → ∀ i, bef m j i = true → D.getD i false = true := by
  intro j
  induction j using Nat.strongRecOn with
  | ind j ih =>
    intro o ho hall i hb
    obtain ⟨h1, h2⟩ := mask_spec h ho
    obtain ⟨e, he, rfl | hb'⟩ := h2 i hb
    · exact hall e he
    · have hej := (h1 e he).1
      have hlt : j < l.length := (List.getElem?_eq_some_iff.1 ho).1
      have hoe : l[e]? = some l[e] := List.getElem?_eq_getElem (by omega)
      exact ih e hej l[e] hoe (hD e _ hoe (hall e he)) i hb'

theorem edges_spec {o : Oper} {D : Array Bool} : (∀ e ∈ o.after, Region.binds .any e = true → D.getD e.on false = true) ↔ ∀ e ∈ edges o, D.getD e false = true := by
  unfold edges
  constructor
  · intro h e he
    rw [List.mem_filterMap] at he
    obtain ⟨x, hx, hxe⟩ := he
    by_cases hb : Region.binds .any x = true
    · rw [if_pos hb] at hxe; cases hxe; exact h x (by simpa using hx) hb
    · rw [if_neg hb] at hxe; cases hxe
  · intro h e he hb
    exact h e.on (List.mem_filterMap.2 ⟨e, by simpa using he, by rw [if_pos hb]⟩)
end

/-! ### The walk -/
def put (f : Tmp → Value) (dst : Option Tmp) (v : Value) : Tmp → Value := fun t => if dst = some t then v else f t
def over (S : Act) (ts : List Tmp) (f : Tmp → Value) : Act := ts.foldl (fun s t => s.put (some t) (f t)) S

/-- The operation yields a value in one step, or by a call that returns. -/
def gives (P : Program) (K : Value → World → Prop) : Result Next → Prop
  | .ok (.value v) w' => K v w'
  | .ok .skip w' => K undef w'
  | .ok (.enter f args) w' => Calls P f args w' (fun e w'' => ∃ v, e = .returned v ∧ K v w'')
  | _ => False

structure Env where
  P : Program
  l : List Oper
  m : List Nat
  fx : List Nat
  effs : List Nat
  S : Nat → Prop
  w0 : World
  I : Nat → World → Prop

/-- What is asked of operation j. -/
def Ob (X : Env) (F : Nat → Know) (S : Act) (j : Nat) (o : Oper) (κ : Know) : Prop :=
  (κ.isDet = true ∨ j ∈ X.fx) ∧
  (∀ f w w', κ.holds o.dst f w → Chgd X.S w w' → κ.holds o.dst f w') ∧
  (match κ with | .det _ => True | .fact ts _ => ∀ t ∈ ts, ∀ i, dstAt X.l i = some t → bef X.m j i = true ∨ i = j) ∧
  ∀ f w k, (∀ i, i < j → bef X.m j i = true → (F i).holds (dstAt X.l i) f w) → Chgd X.S X.w0 w → lo X.m X.effs j ≤ k → k ≤ hi X.m X.effs j → X.I k w →
    if Region.wanted o (yielded X.l.toArray (over S (soft X.l X.fx j o) f).tmps) = true then
      gives X.P (fun v w' => Chgd X.S w w' ∧ X.I (if j ∈ X.effs then k + 1 else k) w' ∧ κ.holds o.dst (put f o.dst v) w') ((execOp (over S (soft X.l X.fx j o) f).eval o).run X.P w)
    else j ∉ X.effs ∧ κ.holds o.dst (put f o.dst undef) w

/-- What is known of operation i, behind j operations ('F': the last one first). -/
def nth (F : List Know) (j i : Nat) : Know := F.getD (j - 1 - i) (.det undef)
def Walk (X : Env) (Q : Act → World → Prop) : List Oper → Nat → List Know → Act → Prop
  | [], j, F, S => ∀ f w, (∀ i, i < j → (nth F j i).holds (dstAt X.l i) f w) → Chgd X.S X.w0 w → X.I X.effs.length w →
      Q (over S (X.fx.filterMap (dstAt X.l)) f) w
  | o :: rest, j, F, S => ∃ κ, Ob X (nth F j) S j o κ ∧ Walk X Q rest (j + 1) (κ :: F) (S.put o.dst κ.val)

/-- The text's order: the state ahead of operation j. -/
def sAct (l : List Oper) (F : List Know) (a0 : Act) : Nat → Act
  | 0 => a0
  | j + 1 => (sAct l F a0 j).put (dstAt l j) (F.getD j (.det undef)).val

theorem Ob.congr {X : Env} {F F' : Nat → Know} {S : Act} {j : Nat} {o : Oper} {κ : Know} (h : Ob X F S j o κ) (hF : ∀ i, i < j → F i = F' i) : Ob X F' S j o κ := by
  obtain ⟨h1, h2, h3, h4⟩ := h
  exact ⟨h1, h2, h3, fun f w k hf => h4 f w k fun i hi hb => by rw [hF i hi]; exact hf i hi hb⟩

theorem Walk.out {X : Env} {Q : Act → World → Prop} {a0 : Act} : ∀ (rest : List Oper) (j : Nat) (F : List Know) (S : Act), (∀ i, rest[i]? = X.l[j + i]?) → F.length = j → S = sAct X.l F.reverse a0 j →
    Walk X Q rest j F S → ∃ G : List Know, G.length = j + rest.length ∧ (∀ i, i < j → G.getD i (.det undef) = F.reverse.getD i (.det undef)) ∧
      (∀ i o, j ≤ i → X.l[i]? = some o → i < j + rest.length → Ob X (fun k => G.getD k (.det undef)) (sAct X.l G a0 i) i o (G.getD i (.det undef))) ∧
      (∀ f w, (∀ i, i < j + rest.length → (G.getD i (.det undef)).holds (dstAt X.l i) f w) → Chgd X.S X.w0 w → X.I X.effs.length w → Q (over (sAct X.l G a0 (j + rest.length)) (X.fx.filterMap (dstAt X.l)) f) w) := by
  have scongr : ∀ (F G : List Know) (j : Nat), (∀ i, i < j → G.getD i (.det undef) = F.getD i (.det undef)) → sAct X.l G a0 j = sAct X.l F a0 j := by
    intro F G j
    induction j with
    | zero => intro _; rfl
    | succ j ih =>
      intro h
      show (sAct X.l G a0 j).put _ _ = (sAct X.l F a0 j).put _ _
      rw [ih (fun i hi => h i (by omega)), h j (by omega)]
  have hnth : ∀ (F : List Know) (j i : Nat), F.length = j → i < j → nth F j i = F.reverse.getD i (.det undef) := by
    intro F j i hF hi
    unfold nth
    simp only [List.getD]
    rw [List.getElem?_reverse (by omega), hF]
  intro rest
  induction rest with
  | nil =>
    intro j F S _ hF hS h
    refine ⟨F.reverse, by simpa using hF, fun _ _ => rfl, fun i o h1 _ h2 => by simp at h2; omega, ?_⟩
    subst hS
    exact fun f w h1 h2 h3 => h f w (fun i hi => by rw [hnth F j i hF hi]; exact h1 i hi) h2 h3
  | cons o rest ih =>
    intro j F S hl hF hS h
    obtain ⟨κ, hob, hw⟩ := h
    have ho : X.l[j]? = some o := by have := hl 0; simpa using this.symm
    have hd : dstAt X.l j = o.dst := by unfold dstAt; rw [ho]; rfl
    have hj : (κ :: F).reverse.getD j (.det undef) = κ := by simp [List.getD, ← hF]
    have hpre : ∀ i, i < j → (κ :: F).reverse.getD i (.det undef) = F.reverse.getD i (.det undef) := by
      intro i hi
      simp only [List.getD, List.reverse_cons]
      rw [List.getElem?_append_left (by simp; omega)]
    obtain ⟨G, hG1, hG2, hG3, hG4⟩ := ih (j + 1) (κ :: F) (S.put o.dst κ.val) (fun i => by have := hl (i + 1); simpa [Nat.add_assoc, Nat.add_comm 1 i] using this) (by simp [hF])
      (by show _ = (sAct X.l (κ :: F).reverse a0 j).put _ _; rw [hj, hd, scongr F.reverse (κ :: F).reverse j hpre, ← hS]) hw
    have hGF : ∀ i, i < j → G.getD i (.det undef) = F.reverse.getD i (.det undef) := fun i hi => (hG2 i (by omega)).trans (hpre i hi)
    refine ⟨G, by rw [hG1]; simp; omega, hGF, fun i o' h1 h2 h3 => ?_, ?_⟩
    · by_cases hij : i = j
      · subst hij
        rw [ho] at h2
        cases h2
        rw [hG2 i (by omega), hj, scongr F.reverse G i hGF, ← hS]
        exact hob.congr fun k hk => by rw [hnth F i k hF hk, hGF k hk]
      · exact hG3 i o' (by omega) h2 (by simp at h3; omega)
    · intro f w h1 h2 h3
      have := hG4 f w (fun i hi => h1 i (by simp; omega)) h2 h3
      rw [show j + (o :: rest).length = j + 1 + rest.length by simp; omega]
      exact this

/-! ### Soundness -/
def count (effs : List Nat) (D : Array Bool) : Nat := effs.countP fun e => D.getD e false

theorem count_set {D : Array Bool} {j : Nat} (hj : j < D.size) (hun : D.getD j false = false) : ∀ {effs : List Nat}, effs.Nodup → count effs (D.setIfInBounds j true) = if j ∈ effs then count effs D + 1 else count effs D := by
  intro effs
  induction effs with
  | nil => intro _; rfl
  | cons e es ih =>
    intro hn
    obtain ⟨h1, h2⟩ := List.nodup_cons.1 hn
    have ih := ih h2
    unfold count at *
    rw [List.countP_cons, List.countP_cons, ih]
    by_cases he : e = j
    · subst he
      simp [h1, hj] at hun ⊢
      simp [hun]
    · have e1 : (D.setIfInBounds j true).getD e false = D.getD e false := getD_set_ne false (Ne.symm he)
      rw [e1]
      have e2 : (j ∈ e :: es) ↔ j ∈ es := by simp [Ne.symm he]
      simp only [e2]
      split <;> omega

theorem tv_put (a : Act) (dst : Option Tmp) (v : Value) (h : ∀ d, dst = some d → d < a.tmps.size) : tv (a.put dst v) = put (tv a) dst v := by
  funext t
  cases dst with
  | none => rfl
  | some d =>
    have hd := h d rfl
    unfold tv put Act.put
    by_cases e : d = t
    · subst e; simp [hd]
    · simp [e, Array.getElem?_setIfInBounds_ne e]
theorem put_size (a : Act) (dst : Option Tmp) (v : Value) : (a.put dst v).tmps.size = a.tmps.size := by cases dst <;> simp [Act.put]
theorem put_def (a : Act) (dst : Option Tmp) (v : Value) : (a.put dst v).defers = a.defers := by cases dst <;> rfl
theorem over_spec (f : Tmp → Value) : ∀ (ts : List Tmp) (S : Act), (over S ts f).tmps.size = S.tmps.size ∧ (over S ts f).defers = S.defers ∧
    ∀ t, tv (over S ts f) t = if t ∈ ts ∧ t < S.tmps.size then f t else tv S t := by
  intro ts
  induction ts with
  | nil => intro S; exact ⟨rfl, rfl, fun t => by simp [over]⟩
  | cons u us ih =>
    intro S
    obtain ⟨h1, h2, h3⟩ := ih (S.put (some u) (f u))
    refine ⟨h1.trans (put_size _ _ _), h2.trans (put_def _ _ _), fun t => (h3 t).trans ?_⟩
    rw [put_size]
    by_cases ht : t < S.tmps.size
    · by_cases hu : t ∈ us
      · simp [hu, ht]
      · simp only [hu, false_and, if_false]
        by_cases e : t = u
        · subst e
          simp [ht, tv, Act.put]
        · have e' : u ≠ t := Ne.symm e
          simp [hu, e, tv, Act.put, Array.getElem?_setIfInBounds_ne e']
    · simp only [ht, and_false, if_false]
      unfold tv Act.put
      simp [ht]

theorem sAct_size (l : List Oper) (G : List Know) (a0 : Act) : ∀ j, (sAct l G a0 j).tmps.size = a0.tmps.size ∧ (sAct l G a0 j).defers = a0.defers
  | 0 => ⟨rfl, rfl⟩
  | j + 1 => ⟨(put_size _ _ _).trans (sAct_size l G a0 j).1, (put_def _ _ _).trans (sAct_size l G a0 j).2⟩
theorem sAct_base (l : List Oper) (G : List Know) (a0 : Act) (t : Tmp) : ∀ j, (∀ i, i < j → dstAt l i ≠ some t) → tv (sAct l G a0 j) t = tv a0 t := by
  intro j
  induction j with
  | zero => intro _; rfl
  | succ j ih =>
    intro h
    show tv ((sAct l G a0 j).put _ _) t = _
    have h1 := h j (by omega)
    cases hd : dstAt l j with
    | none => exact ih fun i hi => h i (by omega)
    | some d =>
      rw [hd] at h1
      have e : d ≠ t := fun e => h1 (by rw [e])
      rw [← ih fun i hi => h i (by omega)]
      unfold tv Act.put
      simp [Array.getElem?_setIfInBounds_ne e]
theorem sAct_val (l : List Oper) (G : List Know) (a0 : Act) (t : Tmp) (ht : t < a0.tmps.size) (hu : ∀ {i j : Nat}, dstAt l i = some t → dstAt l j = some t → i = j) (i : Nat) (hd : dstAt l i = some t) :
    ∀ j, i < j → tv (sAct l G a0 j) t = (G.getD i (.det undef)).val := by
  intro j
  induction j with
  | zero => intro h; omega
  | succ j ih =>
    intro h
    show tv ((sAct l G a0 j).put (dstAt l j) _) t = _
    by_cases hij : i = j
    · subst hij
      rw [hd]
      unfold tv Act.put
      simp [(sAct_size l G a0 i).1, ht]
    · have h2 := ih (by omega)
      rw [← h2]
      cases hj : dstAt l j with
      | none => rfl
      | some d =>
        have e : d ≠ t := fun e => hij (hu hd (by rw [hj, e]))
        unfold tv Act.put
        simp [Array.getElem?_setIfInBounds_ne e]

theorem getq_of_tv {a b : Act} {t : Tmp} (e : tv a t = tv b t) (es : b.tmps.size = a.tmps.size) : a.tmps[t]? = b.tmps[t]? := by
  unfold tv at e
  by_cases hlt : t < a.tmps.size
  · have hlt' : t < b.tmps.size := by rw [es]; exact hlt
    rw [Array.getElem?_eq_getElem hlt, Array.getElem?_eq_getElem hlt']
    simpa [Array.getD, hlt, hlt'] using e
  · have h2 := Nat.le_of_not_lt hlt
    rw [Array.getElem?_eq_none h2, Array.getElem?_eq_none (by rw [es]; exact h2)]

structure Inv (X : Env) (G : List Know) (a0 : Act) (D : Array Bool) (a : Act) (w : World) : Prop where
  size : D.size = X.l.length
  closed : Closed X.l D
  defers : a.defers = a0.defers
  tsz : a.tmps.size = a0.tmps.size
  base : ∀ t, (∀ i, D.getD i false = true → dstAt X.l i ≠ some t) → tv a t = tv a0 t
  facts : ∀ i, D.getD i false = true → (G.getD i (.det undef)).holds (dstAt X.l i) (tv a) w
  world : Chgd X.S X.w0 w
  inv : X.I (count X.effs D) w

theorem holds_congr {κ : Know} {dst : Option Tmp} {f g : Tmp → Value} {w : World} (hd : ∀ d, dst = some d → f d = g d) (hf : ∀ ts F, κ = .fact ts F → ∀ t ∈ ts, f t = g t) (h : κ.holds dst f w) : κ.holds dst g w := by
  cases κ with
  | det v => exact fun d hd' => (hd d hd').symm.trans (h d hd')
  | fact ts F =>
    show F (ts.map g) w
    rw [← List.map_congr_left (hf ts F rfl)]
    exact h

theorem upon_of_gives {P : Program} {o : Oper} {a : Act} {K : Value → World → Prop} {N : Act → World → Prop} {Q : Exit → Act → World → Prop} {r : Result Next}
    (h : gives P K r) (hN : ∀ v w', K v w' → N (a.put o.dst v) w') : o.upon P a N Q r := by
  cases r with
  | ok n w' =>
    cases n <;> simp only [gives] at h <;> simp only [Oper.upon]
    case value u => exact hN _ _ h
    case skip => exact hN _ _ h
    case enter f args =>
      exact h.mono fun e w'' ⟨v, he, hk⟩ => by subst he; exact hN _ _ hk
  | halt x w' => simp only [gives] at h

section
variable {X : Env} {G : List Know} {a0 : Act} {Q : Exit → Act → World → Prop}

theorem Inv.sees {D : Array Bool} {a : Act} {w : World} (h : Inv X G a0 D a w) (hc : check X.l X.m X.effs a0.tmps.size = true)
    (hdet : ∀ i o, X.l[i]? = some o → (G.getD i (.det undef)).isDet = true ∨ i ∈ X.fx) {j : Nat} {o : Oper} (ho : X.l[j]? = some o) (hun : D.getD j false = false) (hall : ∀ e ∈ edges o, D.getD e false = true)
    (t : Tmp) (ht : t ∈ looks X.l o) : tv a t = tv (over (sAct X.l G a0 j) (soft X.l X.fx j o) (tv a)) t := by
  have hm := check_mask hc
  have hu : ∀ {i k : Nat}, dstAt X.l i = some t → dstAt X.l k = some t → i = k := fun hi hk => check_uniq hc hi hk
  rw [(over_spec (tv a) _ _).2.2 t]
  by_cases hs : t ∈ soft X.l X.fx j o ∧ t < (sAct X.l G a0 j).tmps.size
  · rw [if_pos hs]
  · rw [if_neg hs]
    by_cases hex : ∃ i, dstAt X.l i = some t
    · obtain ⟨i, hi⟩ := hex
      have hlt : t < a0.tmps.size := check_lt hc hi
      obtain ⟨oi, hoi⟩ : ∃ oi, X.l[i]? = some oi := by
        unfold dstAt at hi
        cases hx : X.l[i]? with
        | none => rw [hx] at hi; cases hi
        | some oi => exact ⟨oi, rfl⟩
      have late : bef X.m i j = true ∨ i = j → tv a t = tv (sAct X.l G a0 j) t := by
        intro hb
        have hil : D.getD i false = false := by
          cases hD : D.getD i false with
          | false => rfl
          | true =>
            rcases hb with hb | rfl
            · have := bef_listed hm h.closed i oi hoi (h.closed i oi hoi hD) j hb
              rw [hun] at this; cases this
            · rw [hun] at hD; cases hD
        have hji : j ≤ i := by
          rcases hb with hb | rfl
          · exact Nat.le_of_lt (bef_lt hm i j oi hoi hb)
          · exact Nat.le_refl _
        rw [h.base t (fun k hk hkt => by rw [hu hkt hi, hil] at hk; cases hk), sAct_base X.l G a0 t j (fun k hk hkt => by have := hu hkt hi; omega)]
      rcases check_sees hc ho ht hi with hb | hb | hb
      · have hij := bef_lt hm j i o ho hb
        have hil := bef_listed hm h.closed j o ho hall i hb
        have hnf : i ∉ X.fx := fun hf => hs ⟨by
          unfold soft
          rw [List.mem_filter]
          exact ⟨ht, List.any_eq_true.2 ⟨i, hf, by simp [hij, hi]⟩⟩, by rw [(sAct_size X.l G a0 j).1]; exact hlt⟩
        have hd := (hdet i oi hoi).resolve_right hnf
        have hh := h.facts i hil
        rw [sAct_val X.l G a0 t hlt hu i hi j hij]
        cases hG : G.getD i (.det undef) with
        | det v => rw [hG] at hh; exact hh t hi
        | fact ts F => rw [hG] at hd; cases hd
      · exact late (.inl hb)
      · exact late (.inr hb)
    · have hex' : ∀ i, dstAt X.l i ≠ some t := fun i hi => hex ⟨i, hi⟩
      rw [h.base t (fun k _ => hex' k), sAct_base X.l G a0 t j (fun k _ => hex' k)]

theorem Inv.step {D : Array Bool} {a : Act} {w : World} (h : Inv X G a0 D a w) (hc : check X.l X.m X.effs a0.tmps.size = true)
    (hob : ∀ i o, X.l[i]? = some o → Ob X (fun k => G.getD k (.det undef)) (sAct X.l G a0 i) i o (G.getD i (.det undef))) {j : Nat} (hr : j ∈ Region.ready .any X.l.toArray D) :
    wpOp X.P X.l.toArray Q j (Inv X G a0 (D.setIfInBounds j true)) a w := by
  have hm := check_mask hc
  obtain ⟨hun', o, ho', hall'⟩ := mem_ready.1 hr
  have ho : X.l[j]? = some o := by simpa using ho'
  have hall := edges_spec.1 hall'
  have hjl : j < X.l.length := (List.getElem?_eq_some_iff.1 ho).1
  have hjD : j < D.size := by rw [h.size]; exact hjl
  have hun : D.getD j false = false := by simpa [hjD] using hun'
  have hd : dstAt X.l j = o.dst := by unfold dstAt; rw [ho]; rfl
  have hdet : ∀ i o, X.l[i]? = some o → (G.getD i (.det undef)).isDet = true ∨ i ∈ X.fx := fun i o hi => (hob i o hi).1
  have hsees := h.sees hc hdet ho hun hall
  obtain ⟨_, hstab, hdep, hrun⟩ := hob j o ho
  have hdlt : ∀ d, o.dst = some d → d < a.tmps.size := fun d he => by rw [h.tsz]; exact check_lt hc (hd.trans he)
  -- the act that the obligation speaks of
  have hexec : execOp a.eval o = execOp (over (sAct X.l G a0 j) (soft X.l X.fx j o) (tv a)).eval o := by
    refine execOp_congr o (fun cs b => Region.noSelect_spec (check_sel hc) j o cs b ho') fun x hx => ?_
    cases x with
    | tmp t => exact hsees t (List.mem_append_left _ (List.mem_filterMap.2 ⟨.tmp t, by simpa using hx, rfl⟩))
    | const v => rfl
    | global g => rfl
    | func f => rfl
  have hw : Region.wanted o (yielded X.l.toArray a.tmps) = Region.wanted o (yielded X.l.toArray (over (sAct X.l G a0 j) (soft X.l X.fx j o) (tv a)).tmps) := by
    unfold Region.wanted
    cases hg : o.guard with
    | none => rfl
    | some gw =>
      obtain ⟨g, want⟩ := gw
      have hy : yielded X.l.toArray a.tmps g = yielded X.l.toArray (over (sAct X.l G a0 j) (soft X.l X.fx j o) (tv a)).tmps g := by
        unfold yielded
        cases ht : (X.l.toArray[g]?).bind (·.dst) with
        | none => rfl
        | some t =>
          have hl : t ∈ looks X.l o := by
            unfold looks Oper.looksAt
            rw [hg]
            refine List.mem_append_right _ ?_
            simp only [ht]
            simp
          have e := hsees t hl
          have es : (over (sAct X.l G a0 j) (soft X.l X.fx j o) (tv a)).tmps.size = a.tmps.size :=
            ((over_spec (tv a) _ _).1.trans (sAct_size X.l G a0 j).1).trans h.tsz.symm
          have this := getq_of_tv e es
          simp only [Option.bind_some, this]
      simp only [hy]
  have hfacts : ∀ i, i < j → bef X.m j i = true → (G.getD i (.det undef)).holds (dstAt X.l i) (tv a) w := fun i _ hb =>
    h.facts i (bef_listed hm h.closed j o ho hall i hb)
  have hlo : lo X.m X.effs j ≤ count X.effs D := by
    unfold lo count
    rw [← List.countP_eq_length_filter]
    exact List.countP_mono_left fun e _ hb => bef_listed hm h.closed j o ho hall e hb
  have hhi : count X.effs D ≤ hi X.m X.effs j := by
    unfold hi count
    rw [← List.countP_eq_length_filter]
    refine List.countP_mono_left fun e he hb => ?_
    simp only [Bool.not_eq_true', Bool.or_eq_false_iff, beq_eq_false_iff_ne, ne_eq]
    refine ⟨(fun hej => by rw [hej, hun] at hb; cases hb), ?_⟩
    cases hbe : bef X.m e j with
    | false => rfl
    | true =>
      exfalso
      have hel : e < X.l.length := by
        apply Nat.lt_of_not_le
        intro hle
        have : D.getD e false = false := by simp [Array.getElem?_eq_none (show D.size ≤ e by rw [h.size]; exact hle)]
        rw [this] at hb; cases hb
      have hoe : X.l[e]? = some X.l[e] := List.getElem?_eq_getElem hel
      have := bef_listed hm h.closed e _ hoe (h.closed e _ hoe hb) j hbe
      rw [hun] at this; cases this
  have hrun := hrun (tv a) w (count X.effs D) hfacts h.world hlo hhi h.inv
  have hnd : X.effs.Nodup := by
    have := hc
    unfold check at this
    simp only [Bool.and_eq_true, decide_eq_true_eq] at this
    exact this.1.2
  have hcnt := count_set hjD hun hnd
  -- behind the step
  have next : ∀ v w', Chgd X.S w w' → X.I (count X.effs (D.setIfInBounds j true)) w' → (G.getD j (.det undef)).holds o.dst (put (tv a) o.dst v) w' → Inv X G a0 (D.setIfInBounds j true) (a.put o.dst v) w' := by
    intro v w' hch hI hκ
    have htv := tv_put a o.dst v hdlt
    have old : ∀ i, (D.setIfInBounds j true).getD i false = true → i = j ∨ (i ≠ j ∧ D.getD i false = true) := fun i hi => by
      by_cases hij : i = j
      · exact .inl hij
      · rw [getD_set_ne false (Ne.symm hij)] at hi
        exact .inr ⟨hij, hi⟩
    refine ⟨by simpa using h.size, ?_, (put_def _ _ _).trans h.defers, (put_size _ _ _).trans h.tsz, ?_, ?_, h.world.trans hch (fun _ _ hs => hs), hI⟩
    · intro i oi hoi hi e he
      rcases old i hi with rfl | ⟨_, hi'⟩
      · rw [ho] at hoi; cases hoi
        exact getD_set_true (hall e he)
      · exact getD_set_true (h.closed i oi hoi hi' e he)
    · intro t ht
      have h1 : o.dst ≠ some t := fun e => ht j (by simp [hjD]) (hd.trans e)
      rw [htv]
      unfold put
      rw [if_neg h1]
      exact h.base t fun i hi => ht i (getD_set_true hi)
    · intro i hi
      rw [htv]
      rcases old i hi with rfl | ⟨hij, hi'⟩
      · rw [hd]; exact hκ
      · have hil : i < X.l.length := by
          apply Nat.lt_of_not_le
          intro hle
          have : D.getD i false = false := by simp [Array.getElem?_eq_none (show D.size ≤ i by rw [h.size]; exact hle)]
          rw [this] at hi'; cases hi'
        have hoi : X.l[i]? = some X.l[i] := List.getElem?_eq_getElem hil
        obtain ⟨_, hst, hdp, _⟩ := hob i _ hoi
        have hdi : dstAt X.l i = (X.l[i]).dst := by unfold dstAt; rw [hoi]; rfl
        have hold := h.facts i hi'
        rw [hdi] at hold ⊢
        have hold' := hst _ _ _ hold hch
        have hne : ∀ t, (o.dst = some t → False) → tv a t = put (tv a) o.dst v t := fun t hn => by
          unfold put
          rw [if_neg hn]
        refine holds_congr (fun d he => hne d fun e => hij ?_) (fun ts F hF t ht => hne t fun e => ?_) hold'
        · exact check_uniq hc (hdi.trans he) (hd.trans e)
        · rw [hF] at hdp
          rcases hdp t ht j (hd.trans e) with hb | hb
          · have := bef_listed hm h.closed i _ hoi (h.closed i _ hoi hi') j hb
            rw [hun] at this; cases this
          · exact hij hb.symm
  unfold wpOp
  rw [ho']
  simp only []
  by_cases hwt : Region.wanted o (yielded X.l.toArray a.tmps) = true
  · rw [if_pos hwt]
    rw [hw] at hwt
    rw [if_pos hwt] at hrun
    refine .inl ?_
    unfold Oper.wp
    rw [hexec]
    exact upon_of_gives hrun fun v w' ⟨h1, h2, h3⟩ => next v w' h1 (by rw [hcnt]; exact h2) h3
  · rw [if_neg hwt]
    rw [hw] at hwt
    rw [if_neg hwt] at hrun
    refine next undef w (Chgd.refl _ _) ?_ hrun.2
    rw [hcnt, if_neg hrun.1]
    exact h.inv

theorem all_listed {D : Array Bool} (hs : D.size = X.l.length) (hm : maskOK X.l X.m = true) (hr : Region.ready .any X.l.toArray D = []) : ∀ i, i < X.l.length → D.getD i false = true := by
  intro i
  induction i using Nat.strongRecOn with
  | ind i ih =>
    intro hi
    have ho : X.l[i]? = some X.l[i] := List.getElem?_eq_getElem hi
    cases hD : D.getD i false with
    | true => rfl
    | false =>
      exfalso
      have hiD : i < D.size := by omega
      have h1 : D.getD i true = false := by simpa [hiD] using hD
      have : i ∈ Region.ready .any X.l.toArray D := mem_ready.2 ⟨h1, X.l[i], by simp, edges_spec.2 fun e he => by
        have := ((mask_spec hm ho).1 e he).1
        exact ih e this (by omega)⟩
      rw [hr] at this; cases this

theorem Inv.done {D : Array Bool} {a : Act} {w : World} (h : Inv X G a0 D a w) (hc : check X.l X.m X.effs a0.tmps.size = true)
    (hdet : ∀ i o, X.l[i]? = some o → (G.getD i (.det undef)).isDet = true ∨ i ∈ X.fx) (hall : ∀ i, i < X.l.length → D.getD i false = true)
    (hend : ∀ f w, (∀ i, i < X.l.length → (G.getD i (.det undef)).holds (dstAt X.l i) f w) → Chgd X.S X.w0 w → X.I X.effs.length w → Q .normal (over (sAct X.l G a0 X.l.length) (X.fx.filterMap (dstAt X.l)) f) w) : Q .normal a w := by
  have hcount : count X.effs D = X.effs.length := by
    unfold count
    rw [List.countP_eq_length]
    intro e he
    have := hc
    unfold check at this
    simp only [Bool.and_eq_true, List.all_eq_true, decide_eq_true_eq] at this
    exact hall e (this.2 e he)
  have hq := hend (tv a) w (fun i hi => h.facts i (hall i hi)) h.world (hcount ▸ h.inv)
  have hsz : (over (sAct X.l G a0 X.l.length) (X.fx.filterMap (dstAt X.l)) (tv a)).tmps.size = a.tmps.size := by
    rw [(over_spec (tv a) _ _).1, (sAct_size X.l G a0 _).1, h.tsz]
  have htv : ∀ t, tv (over (sAct X.l G a0 X.l.length) (X.fx.filterMap (dstAt X.l)) (tv a)) t = tv a t := by
    intro t
    rw [(over_spec (tv a) _ _).2.2 t]
    split
    · rfl
    · rename_i hs
      by_cases hex : ∃ i, dstAt X.l i = some t
      · obtain ⟨i, hi⟩ := hex
        have hlt : t < a0.tmps.size := check_lt hc hi
        have hil : i < X.l.length := by
          apply Nat.lt_of_not_le
          intro hle
          unfold dstAt at hi
          rw [List.getElem?_eq_none hle] at hi
          cases hi
        have hoi : X.l[i]? = some X.l[i] := List.getElem?_eq_getElem hil
        have hnf : i ∉ X.fx := fun hf => hs ⟨List.mem_filterMap.2 ⟨i, hf, hi⟩, by rw [(sAct_size X.l G a0 _).1]; exact hlt⟩
        rw [sAct_val X.l G a0 t hlt (fun h1 h2 => check_uniq hc h1 h2) i hi _ hil]
        have hd := (hdet i _ hoi).resolve_right hnf
        have hh := h.facts i (hall i hil)
        cases hG : G.getD i (.det undef) with
        | det v => rw [hG] at hh; exact (hh t hi).symm
        | fact ts F => rw [hG] at hd; cases hd
      · have hex' : ∀ i, dstAt X.l i ≠ some t := fun i hi => hex ⟨i, hi⟩
        rw [sAct_base X.l G a0 t _ (fun k _ => hex' k), h.base t (fun k _ => hex' k)]
  have heq : over (sAct X.l G a0 X.l.length) (X.fx.filterMap (dstAt X.l)) (tv a) = a := by
    have hdf : (over (sAct X.l G a0 X.l.length) (X.fx.filterMap (dstAt X.l)) (tv a)).defers = a.defers := by
      rw [(over_spec (tv a) _ _).2.1, (sAct_size X.l G a0 _).2, h.defers]
    generalize over (sAct X.l G a0 X.l.length) (X.fx.filterMap (dstAt X.l)) (tv a) = b at *
    obtain ⟨bt, bd⟩ := b
    obtain ⟨at', ad⟩ := a
    obtain rfl : bd = ad := hdf
    have : bt = at' := by
      apply Array.ext hsz
      intro t h1 h2
      have := htv t
      unfold tv at this
      simpa [Array.getD, h1, h2] using this
    rw [this]
  rw [heq] at hq
  exact hq

theorem Inv.sound (hc : check X.l X.m X.effs a0.tmps.size = true) (hob : ∀ i o, X.l[i]? = some o → Ob X (fun k => G.getD k (.det undef)) (sAct X.l G a0 i) i o (G.getD i (.det undef)))
    (hend : ∀ f w, (∀ i, i < X.l.length → (G.getD i (.det undef)).holds (dstAt X.l i) f w) → Chgd X.S X.w0 w → X.I X.effs.length w → Q .normal (over (sAct X.l G a0 X.l.length) (X.fx.filterMap (dstAt X.l)) f) w) :
    ∀ (fuel : Nat) (D : Array Bool) (a : Act) (w : World), fuel + D.toList.countP id = X.l.length → Inv X G a0 D a w → wpAny X.P .any X.l.toArray Q fuel D a w := by
  have hdet : ∀ i o, X.l[i]? = some o → (G.getD i (.det undef)).isDet = true ∨ i ∈ X.fx := fun i o hi => (hob i o hi).1
  have hm := check_mask hc
  intro fuel
  induction fuel with
  | zero =>
    intro D a w hf h
    have hall : ∀ i, i < X.l.length → D.getD i false = true := by
      have h1 : D.toList.countP id = D.toList.length := by rw [Array.length_toList, h.size]; omega
      rw [List.countP_eq_length] at h1
      intro i hi
      have hiD : i < D.size := by rw [h.size]; exact hi
      have := h1 D[i] (by simp)
      simpa [Array.getD, hiD] using this
    refine ⟨?_, h.done hc hdet hall hend⟩
    apply List.eq_nil_iff_forall_not_mem.2
    intro j hj
    obtain ⟨h1, o, ho, _⟩ := mem_ready.1 hj
    have hlt : j < X.l.length := (List.getElem?_eq_some_iff.1 (by simpa using ho)).1
    have h2 := hall j hlt
    have hjD : j < D.size := by rw [h.size]; exact hlt
    simp [hjD] at h1 h2
    rw [h1] at h2; cases h2
  | succ fuel ih =>
    intro D a w hf h
    refine ⟨fun hr => h.done hc hdet (all_listed h.size hm hr) hend, fun j hj => ?_⟩
    have hs := h.step (Q := Q) hc hob hj
    refine wpOp_mono (fun a' w' h' => ih _ a' w' ?_ h') hs
    obtain ⟨h1, o, ho, _⟩ := mem_ready.1 hj
    have hlt : j < X.l.length := (List.getElem?_eq_some_iff.1 (by simpa using ho)).1
    have hjD : j < D.size := by rw [h.size]; exact hlt
    have h2 : D[j] = false := by simpa [Array.getD, hjD] using h1
    rw [Array.toList_setIfInBounds, List.countP_set (by simpa using hjD)]
    simp only [Array.getElem_toList, h2, id_eq, Bool.false_eq_true, if_false, if_true]
    omega
end

section
variable {X : Env} {G : List Know} {a0 : Act} {Q : Exit → Act → World → Prop}
theorem Inv.seq (hc : check X.l X.m X.effs a0.tmps.size = true) (hob : ∀ i o, X.l[i]? = some o → Ob X (fun k => G.getD k (.det undef)) (sAct X.l G a0 i) i o (G.getD i (.det undef)))
    (hend : ∀ f w, (∀ i, i < X.l.length → (G.getD i (.det undef)).holds (dstAt X.l i) f w) → Chgd X.S X.w0 w → X.I X.effs.length w → Q .normal (over (sAct X.l G a0 X.l.length) (X.fx.filterMap (dstAt X.l)) f) w) :
    ∀ (m j : Nat) (D : Array Bool) (a : Act) (w : World), j + m = X.l.length → (∀ i, i < j → D.getD i false = true) → (∀ i, j ≤ i → D.getD i false = false) → Inv X G a0 D a w → wpOps X.P X.l.toArray Q (List.range' j m) a w := by
  have hdet : ∀ i o, X.l[i]? = some o → (G.getD i (.det undef)).isDet = true ∨ i ∈ X.fx := fun i o hi => (hob i o hi).1
  have hm := check_mask hc
  intro m
  induction m with
  | zero =>
    intro j D a w hj h1 _ h
    exact h.done hc hdet (fun i hi => h1 i (by omega)) hend
  | succ m ih =>
    intro j D a w hj h1 h2 h
    rw [List.range'_succ, wpOps_cons]
    have hlt : j < X.l.length := by omega
    have hjD : j < D.size := by rw [h.size]; exact hlt
    have ho : X.l[j]? = some X.l[j] := List.getElem?_eq_getElem hlt
    have hun : D.getD j true = false := by have := h2 j (Nat.le_refl _); simpa [hjD] using this
    have hr : j ∈ Region.ready .any X.l.toArray D := mem_ready.2 ⟨hun, X.l[j], by simp [hlt], edges_spec.2 fun e he => h1 e ((mask_spec hm ho).1 e he).1⟩
    refine wpOp_mono (fun a' w' h' => ih (j + 1) _ a' w' (by omega) (fun i hi => ?_) (fun i hi => ?_) h') (h.step hc hob hr)
    · by_cases hij : i = j
      · subst hij; simp [hjD]
      · exact getD_set_true (h1 i (by omega))
    · rw [getD_set_ne false (by omega)]
      exact h2 i (by omega)
end

/-- A region that goes in the text's order. -/
theorem region_seq {P : Program} {rid : Nat} {Q : Exit → Act → World → Prop} {a0 : Act} {w : World} {l : List Oper} (m fx effs : List Nat) (S : Nat → Prop) (I : Nat → World → Prop) (n : Nat)
    (hn : a0.tmps.size = n) (hc : check l m effs n = true) (hI : I 0 w)
    (h : Walk ⟨P, l, m, fx, effs, S, w, I⟩ (Q .normal) l 0 [] a0) : (Code.region rid l.toArray false).wp P Q a0 w := by
  obtain ⟨G, hG1, _, hG3, hG4⟩ := Walk.out l 0 [] a0 (fun i => by simp) rfl rfl h
  subst hn
  refine wp_region ?_
  simp only [Nat.zero_add] at hG3 hG4
  rw [List.range_eq_range', List.size_toArray]
  have hno : ∀ i, (Array.replicate l.toArray.size false).getD i false = false := fun i => by
    by_cases hi : i < l.length <;> simp [hi]
  refine Inv.seq (X := ⟨P, l, m, fx, effs, S, w, I⟩) (G := G) (a0 := a0) (Q := Q) hc (fun i o ho => hG3 i o (Nat.zero_le _) ho (List.getElem?_eq_some_iff.1 ho).1) hG4 _ 0 (Array.replicate l.toArray.size false) _ _ (by simp) (fun i hi => by omega) (fun i _ => hno i) ?_
  refine ⟨by simp, (fun j o _ hj => by rw [hno] at hj; cases hj), rfl, rfl, fun _ _ => rfl, (fun i hi => by rw [hno] at hi; cases hi), Chgd.refl _ _, ?_⟩
  have : count effs (Array.replicate l.toArray.size false) = 0 := by
    unfold count
    rw [List.countP_eq_zero]
    intro e _
    rw [hno]
    simp
  show I (count effs _) _
  rw [this]
  exact hI

theorem region_lin {P : Program} {rid : Nat} {Q : Exit → Act → World → Prop} {a0 : Act} {w : World} {l : List Oper} (m fx effs : List Nat) (S : Nat → Prop) (I : Nat → World → Prop) (n : Nat)
    (hm : P.follows .mixedOrders = true) (hn : a0.tmps.size = n) (hc : check l m effs n = true) (hI : I 0 w.drew)
    (h : Walk ⟨P, l, m, fx, effs, S, w, I⟩ (Q .normal) l 0 [] a0) : (Code.region rid l.toArray true).wp P Q a0 w := by
  obtain ⟨G, hG1, _, hG3, hG4⟩ := Walk.out l 0 [] a0 (fun i => by simp) rfl rfl h
  subst hn
  refine wp_region_any hm ?_
  simp only [Nat.zero_add] at hG3 hG4
  refine Inv.sound (X := ⟨P, l, m, fx, effs, S, w, I⟩) (G := G) (a0 := a0) (Q := Q) hc (fun i o ho => hG3 i o (Nat.zero_le _) ho (List.getElem?_eq_some_iff.1 ho).1) hG4 _ _ _ _ ?_ ?_
  · have : (Array.replicate l.toArray.size false).toList.countP id = 0 := by
      rw [List.countP_eq_zero]
      intro b hb
      simp at hb
      simp [hb.2]
    rw [this]
    simp
  · have hno : ∀ i, (Array.replicate l.toArray.size false).getD i false = false := fun i => by
      by_cases hi : i < l.length <;> simp [hi]
    refine ⟨by simp, (fun j o _ hj => by rw [hno] at hj; cases hj), rfl, rfl, fun _ _ => rfl, (fun i hi => by rw [hno] at hi; cases hi), (Chgd.refl _ _).drew, ?_⟩
    have : count effs (Array.replicate l.toArray.size false) = 0 := by
      unfold count
      rw [List.countP_eq_zero]
      intro e _
      rw [hno]
      simp
    show I (count effs _) _
    rw [this]
    exact hI
end Go.Proofs.YtomalanncdcopaaDoor.Lin
