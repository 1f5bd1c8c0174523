/- Steps of a region's walk (Lin2); of no program. -/
import Derived.Test.YtomalanncdcopaaDoorLin2
import Derived.Test.YtomalanncdcopaaDoorLinW
set_option linter.unusedSimpArgs false
set_option linter.unusedVariables false
namespace Go.Proofs.YtomalanncdcopaaDoor.Lin2
open Go Go.Proofs.YtomalanncdcopaaDoor.Mem

section
variable {X : Env} {Q : Act → World → Prop} {o : Oper} {rest : List Oper} {j : Nat} {F : List Know} {S : Act}

theorem over_nil (S : Act) (f : Tmp → Value) : over S [] f = S := rfl
theorem det_stable {v : Value} {dst : Option Tmp} : ∀ (f : Tmp → Value) (w w' : World) (k : Nat), (Know.det v).holds dst f w k → OnlyNew w w' → (Know.det v).holds dst f w' k := fun _ _ _ _ h _ => h
theorem det_put {v : Value} {dst : Option Tmp} {f : Tmp → Value} {w : World} {k : Nat} : (Know.det v).holds dst (put f dst v) w k := fun d hd => by simp [put, hd]

theorem walk_pure (v : Value) (hs : soft X.l X.fx j o = []) (he : X.effs.contains j = false) (hw : Region.wanted o (yielded X.l.toArray S.tmps) = true)
    (hr : ∀ w, (execOp S.eval o).run X.P w = .ok (.value v) w) (h : ∀ S', S' = S.put o.dst v → Walk X Q rest (j + 1) (.det v :: F) S') : Walk X Q (o :: rest) j F S := by
  refine ⟨.det v, ⟨.inl rfl, det_stable, trivial, fun f w k _ _ _ _ _ => ?_⟩, h _ rfl⟩
  have hj : ¬ j ∈ X.effs := by simpa using he
  rw [hs, over_nil, if_pos hw, hr]
  show if _ then _ else _
  rw [if_neg hj]
  exact ⟨Chgd.refl _ _, det_put⟩
theorem walk_skip (hs : soft X.l X.fx j o = []) (he : X.effs.contains j = false) (hw : Region.wanted o (yielded X.l.toArray S.tmps) = false)
    (h : ∀ S', S' = S.put o.dst undef → Walk X Q rest (j + 1) (.det undef :: F) S') : Walk X Q (o :: rest) j F S := by
  refine ⟨.det undef, ⟨.inl rfl, det_stable, trivial, fun f w k _ _ _ _ _ => ?_⟩, h _ rfl⟩
  have hj : ¬ j ∈ X.effs := by simpa using he
  rw [hs, over_nil, hw, if_neg (by simp)]
  exact ⟨hj, det_put⟩
theorem walk_read (v : Value) (a b : Nat) (ha : lo X.m X.effs j = a) (hb : hi X.m X.effs j = b) (hs : soft X.l X.fx j o = []) (he : X.effs.contains j = false) (hw : Region.wanted o (yielded X.l.toArray S.tmps) = true)
    (hr : ∀ w k, Chgd X.S X.w0 w → a ≤ k → k ≤ b → X.I k w → (execOp S.eval o).run X.P w = .ok (.value v) w) (h : ∀ S', S' = S.put o.dst v → Walk X Q rest (j + 1) (.det v :: F) S') : Walk X Q (o :: rest) j F S := by
  refine ⟨.det v, ⟨.inl rfl, det_stable, trivial, fun f w k _ hc h1 h2 hI => ?_⟩, h _ rfl⟩
  have hj : ¬ j ∈ X.effs := by simpa using he
  rw [hs, over_nil, if_pos hw, hr w k hc (ha ▸ h1) (hb ▸ h2) hI]
  show if _ then _ else _
  rw [if_neg hj]
  exact ⟨Chgd.refl _ _, det_put⟩
/-- A call (or whatever makes memory) whose value is known; 'ts': what it looks at that is known by predicates alone. -/
theorem walk_call (ts : List Tmp) (v : Value) (a b : Nat) (ha : lo X.m X.effs j = a) (hb : hi X.m X.effs j = b) (hs : soft X.l X.fx j o = ts) (he : X.effs.contains j = false)
    (hw : ∀ f, Region.wanted o (yielded X.l.toArray (over S ts f).tmps) = true)
    (hr : ∀ f w k, (∀ i, i < j → bef X.m j i = true → (nth F j i).holds (dstAt X.l i) f w k) → Chgd X.S X.w0 w → a ≤ k → k ≤ b → X.I k w → gives X.P (fun u w' => u = v ∧ OnlyNew w w') ((execOp (over S ts f).eval o).run X.P w))
    (h : ∀ S', S' = S.put o.dst v → Walk X Q rest (j + 1) (.det v :: F) S') : Walk X Q (o :: rest) j F S := by
  refine ⟨.det v, ⟨.inl rfl, det_stable, trivial, fun f w k hf hc h1 h2 hI => ?_⟩, h _ rfl⟩
  have hj : ¬ j ∈ X.effs := by simpa using he
  rw [hs, if_pos (hw f)]
  refine gives_mono (fun u w' ⟨e1, e2⟩ => ?_) (hr f w k hf hc (ha ▸ h1) (hb ▸ h2) hI)
  rw [if_neg hj]
  subst e1
  exact ⟨e2, det_put⟩
/-- What is known by a predicate alone. -/
theorem walk_fact (ts : List Tmp) (d : Tmp) (G : Value → World → Nat → Prop) (a b : Nat) (ha : lo X.m X.effs j = a) (hb : hi X.m X.effs j = b) (hd : o.dst = some d) (hx : X.fx.contains j = true) (hs : soft X.l X.fx j o = ts) (he : X.effs.contains j = false)
    (hj : dstAt X.l j = some d) (hu : uniq X.l = true) (hw : ∀ f, Region.wanted o (yielded X.l.toArray (over S ts f).tmps) = true)
    (hG : ∀ v w w' k, G v w k → OnlyNew w w' → G v w' k)
    (hr : ∀ f w k, (∀ i, i < j → bef X.m j i = true → (nth F j i).holds (dstAt X.l i) f w k) → Chgd X.S X.w0 w → a ≤ k → k ≤ b → X.I k w → gives X.P (fun u w' => G u w' k ∧ OnlyNew w w') ((execOp (over S ts f).eval o).run X.P w))
    (h : ∀ S', S' = S.put o.dst undef → Walk X Q rest (j + 1) (.fact [d] (fun vs w k => ∃ v, vs = [v] ∧ G v w k) :: F) S') : Walk X Q (o :: rest) j F S := by
  refine ⟨.fact [d] fun vs w k => ∃ v, vs = [v] ∧ G v w k, ⟨.inr (by simpa using hx), fun f w w' k ⟨v, h1, h2⟩ hc => ⟨v, h1, hG v w w' k h2 hc⟩, ?_, fun f w k hf hc h1 h2 hI => ?_⟩, h _ rfl⟩
  · intro t ht i hi
    obtain rfl : t = d := by simpa using ht
    refine .inr ?_
    have hlt : ∀ {k}, dstAt X.l k = some t → k < X.l.length := by
      intro k hk
      apply Nat.lt_of_not_le
      intro hle
      unfold dstAt at hk
      rw [List.getElem?_eq_none hle] at hk
      cases hk
    have key : ∀ {i j : Nat}, dstAt X.l i = some t → dstAt X.l j = some t → ¬ i < j := by
      intro i j hi hj hij
      unfold uniq at hu
      rw [List.all_eq_true] at hu
      have h1 := hu j (List.mem_range.2 (hlt hj))
      rw [List.all_eq_true] at h1
      have h2 := h1 i (List.mem_range.2 hij)
      rw [hi, hj] at h2
      simp at h2
    rcases Nat.lt_trichotomy i j with h1 | h1 | h1
    · exact absurd h1 (key hi hj)
    · exact h1
    · exact absurd h1 (key hj hi)
  · have hj' : ¬ j ∈ X.effs := by simpa using he
    rw [hs, if_pos (hw f)]
    refine gives_mono (fun u w' ⟨e1, e2⟩ => ?_) (hr f w k hf hc (ha ▸ h1) (hb ▸ h2) hI)
    rw [if_neg hj']
    exact ⟨e2, u, by simp [put, hd], e1⟩
/-- An effect. -/
theorem walk_eff (ts : List Tmp) (v : Value) (a : Nat) (ha : lo X.m X.effs j = a) (hb : hi X.m X.effs j = a) (hs : soft X.l X.fx j o = ts) (he : X.effs.contains j = true)
    (hw : ∀ f, Region.wanted o (yielded X.l.toArray (over S ts f).tmps) = true)
    (hr : ∀ f w, (∀ i, i < j → bef X.m j i = true → (nth F j i).holds (dstAt X.l i) f w a) → Chgd X.S X.w0 w → X.I a w →
      gives X.P (fun u w' => u = v ∧ Chgd X.S X.w0 w' ∧ X.I (a + 1) w' ∧ ∀ i, i ∈ X.fx → i < j → bef X.m j i = true → (nth F j i).holds (dstAt X.l i) f w' (a + 1)) ((execOp (over S ts f).eval o).run X.P w))
    (h : ∀ S', S' = S.put o.dst v → Walk X Q rest (j + 1) (.det v :: F) S') : Walk X Q (o :: rest) j F S := by
  refine ⟨.det v, ⟨.inl rfl, det_stable, trivial, fun f w k hf hc h1 h2 hI => ?_⟩, h _ rfl⟩
  have hj : j ∈ X.effs := by simpa using he
  obtain rfl : k = a := by omega
  rw [hs, if_pos (hw f)]
  refine gives_mono (fun u w' ⟨e1, e2, e3, e4⟩ => ?_) (hr f w hf hc hI)
  rw [if_pos hj]
  subst e1
  exact ⟨e2, e3, det_put, e4⟩
theorem walk_end0 (hx : X.fx = []) (hQ : ∀ w, Chgd X.S X.w0 w → X.I X.effs.length w → Q S w) : Walk X Q [] j F S := by
  intro f w _ h2 h3
  rw [hx]
  exact hQ w h2 h3
theorem walk_end1 (ts : List Tmp) (hx : X.fx.filterMap (dstAt X.l) = ts) (hQ : ∀ f w, (∀ i, i < j → (nth F j i).holds (dstAt X.l i) f w X.effs.length) → Chgd X.S X.w0 w → X.I X.effs.length w →
    ∀ S', S' = over S ts f → Q S' w) : Walk X Q [] j F S := by
  intro f w h1 h2 h3
  rw [hx]
  exact hQ f w h1 h2 h3 _ rfl
theorem gives1 {P : Program} {K : Value → World → Prop} {v : Value} {w : World} (h : K v w) : gives P K (.ok (.value v) w) := h
theorem gives_old {P : Program} {K : Value → World → Prop} {r : Result Next} (h : Lin.gives P K r) : gives P K r := by
  cases r with
  | ok n w' => cases n <;> exact h
  | halt x w' => exact h
end
theorem fact1 {f : Tmp → Value} {t : Tmp} {G : Value → World → Nat → Prop} {dst : Option Tmp} {w : World} {k : Nat} (h : (Know.fact [t] (fun vs w k => ∃ v, vs = [v] ∧ G v w k)).holds dst f w k) : G (f t) w k := by
  obtain ⟨v, hv, hG⟩ := h
  have e : f t = v := by simpa using hv
  rw [e]; exact hG
theorem over1 {S : Act} {t : Tmp} {f : Tmp → Value} : over S [t] f = S.put (some t) (f t) := rfl
theorem over2 {S : Act} {t u : Tmp} {f : Tmp → Value} : over S [t, u] f = (S.put (some t) (f t)).put (some u) (f u) := rfl
theorem gives_ok {P : Program} {v : Value} {w : World} {r : Result Next} (h : r = .ok (.value v) w) : gives P (fun u w' => u = v ∧ OnlyNew w w') r := by
  subst h; exact ⟨rfl, Chgd.refl _ _⟩
/-- A new variable: before the effect number s it holds xs, behind it ys. -/
def NewVar (lo : Nat) (xs ys : List Value) (s : Nat) (v : Value) (w : World) (k : Nat) : Prop :=
  ∃ B, v = .pointer (some ⟨B, 0, none⟩) ∧ lo ≤ B ∧ Row w B 0 (if k ≤ s then xs else ys)
theorem NewVar.keep {lo : Nat} {xs ys : List Value} {s : Nat} : ∀ v w w' k, NewVar lo xs ys s v w k → OnlyNew w w' → NewVar lo xs ys s v w' k := fun _ _ _ _ ⟨B, h1, h2, h3⟩ hc => ⟨B, h1, h2, h3.keep hc (fun h => h)⟩
end Go.Proofs.YtomalanncdcopaaDoor.Lin2
