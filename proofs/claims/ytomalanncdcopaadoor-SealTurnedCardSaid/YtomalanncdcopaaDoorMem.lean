/- What a call leaves alone (Chgd), slices by their cells (Srow), bytes as cells and strings: of no program. -/
import Derived.WalkKit
import Derived.ArgAppend
import Derived.Deep.RegionLaw
import Derived.Deep.RegionLawGrows
import Derived.Deep.AppendLies
import Derived.Lib.ConvBytes
import Derived.Lib.AppendStr
import Derived.Lib.Hide
import Derived.Lib.Strings
import Derived.Deep.Draws
import Derived.Deep.Quiet
import Derived.Laws.BytesArg
set_option linter.unusedSimpArgs false
set_option linter.unusedVariables false
namespace Go.Proofs.YtomalanncdcopaaDoor.Mem
open Go.RowKit

/-- w' is w but for the blocks in S, and for new blocks. -/
structure Chgd (S : Nat → Prop) (w w' : World) : Prop where
  os : w'.os = w.os
  tape : w'.tape = w.tape
  output : w'.output = w.output
  size : w.heap.size ≤ w'.heap.size
  block : ∀ k, k < w.heap.size → ¬ S k → w'.heap[k]? = w.heap[k]?

theorem Chgd.refl (S : Nat → Prop) (w : World) : Chgd S w w := ⟨rfl, rfl, rfl, Nat.le_refl _, fun _ _ _ => rfl⟩
theorem Chgd.trans {S S' : Nat → Prop} {a b c : World} (h : Chgd S a b) (k : Chgd S' b c) (hs : ∀ j, j < a.heap.size → S' j → S j) : Chgd S a c :=
  ⟨k.os.trans h.os, k.tape.trans h.tape, k.output.trans h.output, Nat.le_trans h.size k.size, fun j hj hn => (k.block j (Nat.lt_of_lt_of_le hj h.size) (fun h' => hn (hs j hj h'))).trans (h.block j hj hn)⟩
theorem Chgd.mono {S S' : Nat → Prop} {a b : World} (h : Chgd S a b) (hs : ∀ j, j < a.heap.size → S j → S' j) : Chgd S' a b :=
  ⟨h.os, h.tape, h.output, h.size, fun j hj hn => h.block j hj (fun h' => hn (hs j hj h'))⟩
theorem Chgd.drew {S : Nat → Prop} {a b : World} (h : Chgd S a b) : Chgd S a b.drew := ⟨h.os, h.tape, h.output, h.size, h.block⟩
theorem Chgd.drewN {S : Nat → Prop} {a b : World} (h : Chgd S a b) (n : Nat) : Chgd S a (b.drewN n) := ⟨h.os, h.tape, h.output, h.size, h.block⟩
theorem Chgd.alloc {S : Nat → Prop} {a b : World} (h : Chgd S a b) (o : Obj) : Chgd S a (b.alloc o) :=
  ⟨h.os, h.tape, h.output, by have := h.size; simp; omega, fun k hk hn => by rw [Below.heap_alloc _ _ _ (Nat.lt_of_lt_of_le hk h.size)]; exact h.block k hk hn⟩
theorem Chgd.bytes {S : Nat → Prop} {a b : World} (h : Chgd S a b) (e : TypeId) (s : ByteArray) : Chgd S a (Lib.bytesWorld b e s) :=
  ⟨h.os, h.tape, h.output, by have := h.size; rw [Lib.bytesWorld_size]; omega, fun k hk hn => by rw [Lib.bytesWorld_at_old _ _ _ _ (Nat.lt_of_lt_of_le hk h.size)]; exact h.block k hk hn⟩
theorem Chgd.setCell {S : Nat → Prop} {a b : World} (h : Chgd S a b) {p : Addr} (hp : p.block < a.heap.size → S p.block) (u : Value) : Chgd S a (b.setCell p u) :=
  ⟨h.os, h.tape, h.output, by have := h.size; simp; omega, fun k hk hn => by
    have he : k ≠ p.block := by
      intro e
      subst e
      exact hn (hp hk)
    rw [Below.heap_setCell _ _ _ _ he]; exact h.block k hk hn⟩
theorem Chgd.grown {S : Nat → Prop} {a b c : World} {row : Option Nat} (h : Chgd S a b) (hg : b.grownBy c row) (hr : ∀ k, row = some k → k < a.heap.size → S k) : Chgd S a c :=
  ⟨hg.os.trans h.os, hg.tape.trans h.tape, hg.output.trans h.output, Nat.le_trans h.size hg.size, fun k hk hn => by
    rw [hg.block k (Nat.lt_of_lt_of_le hk h.size) (fun e => hn (hr k e.symm hk))]; exact h.block k hk hn⟩
theorem Chgd.below {S : Nat → Prop} {a b : World} (h : Chgd S a b) {B : Nat} (hB : B ≤ a.heap.size) (hs : ∀ j, j < B → ¬ S j) : Below B a b :=
  ⟨h.os, h.tape, h.output, h.size, fun k hk => h.block k (by omega) (hs k hk)⟩
theorem Chgd.of_below {a b : World} (h : Below a.heap.size a b) (S : Nat → Prop) : Chgd S a b := ⟨h.os, h.tape, h.output, h.size, fun k hk _ => h.block k hk⟩
theorem Chgd.of_below' {B : Nat} {a b : World} (h : Below B a b) : Chgd (fun k => B ≤ k) a b := ⟨h.os, h.tape, h.output, h.size, fun k _ hn => h.block k (by omega)⟩
theorem Chgd.cell {S : Nat → Prop} {a b : World} (h : Chgd S a b) {p : Addr} (hp : p.block < a.heap.size) (hn : ¬ S p.block) : b.cell? p = a.cell? p := World.cell?_of_block (h.block _ hp hn)
theorem Chgd.frozen {S : Nat → Prop} {a b : World} (h : Chgd S a b) {p : Addr} (hp : p.block < a.heap.size) (hn : ¬ S p.block) : b.frozen? p = a.frozen? p := World.frozen?_of_block (h.block _ hp hn)
/-- A cell that was there lies in a block that was there. -/
theorem block_lt {w : World} {p : Addr} {v : Value} (h : w.cell? p = some v) : p.block < w.heap.size := World.block_lt_of_cell? w p h
theorem Chgd.at_ {S : Nat → Prop} {a b : World} (h : Chgd S a b) {p : Addr} {v : Value} (hc : a.cell? p = some v) (hn : ¬ S p.block) : b.cell? p = some v := (h.cell (block_lt hc) hn).trans hc
/-- Only new blocks. -/
abbrev OnlyNew (w w' : World) : Prop := Chgd (fun _ => False) w w'

/-- The slice ⟨ao, n, cap⟩ of elements of 'size' cells each holds the cells xs, in the block g (none: nil); all its cells, up to the capacity, may be written. -/
def Srow (w : World) (size : Nat) (ao : Option Addr) (n cap : Nat) (xs : List Value) (g : Option Nat) : Prop :=
  (ao = none ∧ n = 0 ∧ cap = 0 ∧ xs = [] ∧ g = none) ∨
  ∃ b off, ao = some ⟨b, off, none⟩ ∧ g = some b ∧ n ≤ cap ∧ cap ≤ maxLen ∧ xs.length = n * size ∧ b < w.heap.size ∧
    (∀ j, j < cap * size → ∃ u, w.cell? ⟨b, off + j, none⟩ = some u) ∧ (∀ j, j < cap * size → w.frozen? ⟨b, off + j, none⟩ = false) ∧
    ∀ j u, xs[j]? = some u → w.cell? ⟨b, off + j, none⟩ = some u

theorem Srow.nil (w : World) (size : Nat) : Srow w size none 0 0 [] none := .inl ⟨rfl, rfl, rfl, rfl, rfl⟩
theorem Srow.len {w : World} {size : Nat} {ao : Option Addr} {n cap : Nat} {xs : List Value} {g : Option Nat} (h : Srow w size ao n cap xs g) : xs.length = n * size ∧ n ≤ cap := by
  rcases h with ⟨_, rfl, rfl, rfl, _⟩ | ⟨b, off, _, _, h1, _, h2, _⟩
  · simp
  · exact ⟨h2, h1⟩
theorem Srow.lt {w : World} {size : Nat} {ao : Option Addr} {n cap : Nat} {xs : List Value} {g : Option Nat} (h : Srow w size ao n cap xs g) : ∀ k, g = some k → k < w.heap.size := by
  intro k hk
  rcases h with ⟨_, _, _, _, rfl⟩ | ⟨b, off, _, rfl, _, _, _, hb, _⟩
  · cases hk
  · cases hk; exact hb
theorem Srow.form {w : World} {size : Nat} {ao : Option Addr} {n cap : Nat} {xs : List Value} {g : Option Nat} (h : Srow w size ao n cap xs g) (hn : 0 < n) :
    ∃ b off, ao = some ⟨b, off, none⟩ ∧ g = some b ∧ (∀ j u, xs[j]? = some u → w.cell? ⟨b, off + j, none⟩ = some u) ∧ ∀ j, j < cap * size → w.frozen? ⟨b, off + j, none⟩ = false := by
  rcases h with ⟨_, rfl, _⟩ | ⟨b, off, h1, h2, _, _, _, _, _, h3, h4⟩
  · omega
  · exact ⟨b, off, h1, h2, h4, h3⟩
theorem Srow.keep {w w' : World} {S : Nat → Prop} {size : Nat} {ao : Option Addr} {n cap : Nat} {xs : List Value} {g : Option Nat} (h : Srow w size ao n cap xs g) (ht : Chgd S w w') (hs : ∀ k, g = some k → ¬ S k) : Srow w' size ao n cap xs g := by
  rcases h with h | ⟨b, off, h1, h2, h3, h4, h5, hb, hc, hf, hx⟩
  · exact .inl h
  · have hn := hs b h2
    refine .inr ⟨b, off, h1, h2, h3, h4, h5, Nat.lt_of_lt_of_le hb ht.size, fun j hj => ?_, fun j hj => ?_, fun j u hj => ?_⟩
    · rw [ht.cell (p := ⟨b, off + j, none⟩) hb hn]; exact hc j hj
    · rw [ht.frozen (p := ⟨b, off + j, none⟩) hb hn]; exact hf j hj
    · rw [ht.cell (p := ⟨b, off + j, none⟩) hb hn]; exact hx j u hj
/-- A row that the kit's laws leave. -/
theorem Srow.of_own {w : World} {base : Nat} {e : TypeId} {size n : Nat} {v : Value} {xs : List Value} (h : w.ownsRow base e size v n xs) :
    ∃ ao cap, v = .slice ao n cap ∧ Srow w size ao n cap xs v.ownBlock ∧ ∀ k, v.ownBlock = some k → base ≤ k := by
  obtain ⟨hl, h⟩ := h
  rcases h with ⟨rfl, rfl⟩ | ⟨g, cap, cur, rfl, hb, hg, hn, hm, hs, hx⟩
  · have : xs = [] := List.eq_nil_of_length_eq_zero (by simpa using hl)
    subst this
    exact ⟨none, 0, rfl, Srow.nil _ _, fun k hk => by cases hk⟩
  · have hlt : g < w.heap.size := (Array.getElem?_eq_some_iff.1 hg).1
    refine ⟨_, cap, rfl, .inr ⟨g, 0, rfl, rfl, hn, hm, hl, hlt, fun j hj => ?_, fun j hj => ?_, fun j u hj => ?_⟩, fun k hk => by cases hk; exact hb⟩
    · refine ⟨cur[j]'(by omega), ?_⟩
      simp [World.cell?, hg, hs, hj]
    · simp [World.frozen?, hg]
    · have hjl : j < xs.length := (List.getElem?_eq_some_iff.1 hj).1
      rw [← hx, List.getElem?_take_of_lt (by omega)] at hj
      simpa [World.cell?, hg] using hj
/-- A new block, as a row. -/
theorem Srow.new (w : World) (cs : Array Value) (t : TypeId) (size n : Nat) (hs : cs.size = n * size) (hm : n ≤ maxLen) :
    Srow (w.alloc (.cells cs t)) size (some ⟨w.heap.size, 0, none⟩) n n cs.toList (some w.heap.size) := by
  have hg : (w.alloc (.cells cs t)).heap[w.heap.size]? = some (.cells cs t (0, 0)) := (MapKept.heap_alloc w _).1
  refine .inr ⟨_, 0, rfl, rfl, Nat.le_refl _, hm, by simpa using hs, by simp, fun j hj => ?_, fun j hj => ?_, fun j u hj => ?_⟩
  · refine ⟨cs[j]'(by omega), ?_⟩
    unfold World.cell?
    rw [hg]
    simp [hs, hj]
  · unfold World.frozen?
    rw [hg]
    simp
  · unfold World.cell?
    rw [hg]
    simpa using hj

theorem setCells_touch (w : World) (b o : Nat) (news : List Value) (S : Nat → Prop) (hS : S b) : Chgd S w (w.setCells b o news) := by
  suffices all : ∀ (news : List Value) (v : World) (o : Nat), Chgd S w v → Chgd S w (v.setCells b o news) from all news w o (Chgd.refl _ _)
  intro news
  induction news with
  | nil => intro v o h; exact h
  | cons u r ih => intro v o h; simp only [World.setCells]; exact ih _ _ (h.setCell (fun _ => hS) _)
theorem setCells_size (w : World) (b o : Nat) (news : List Value) : (w.setCells b o news).heap.size = w.heap.size := by
  induction news generalizing w o with
  | nil => rfl
  | cons u r ih => simp only [World.setCells]; rw [ih]; simp
/-- What a row holds behind a write of 'news' at its cell k. -/
theorem Srow.wrote {w : World} {size : Nat} {ao : Option Addr} {n cap : Nat} {xs : List Value} {b off : Nat} (h : Srow w size ao n cap xs (some b)) (ha : ao = some ⟨b, off, none⟩) (k m : Nat) (news ys : List Value) (hk : k + news.length ≤ cap * size)
    (hm' : m ≤ cap) (hl : ys.length = m * size) (hy : ∀ j u, ys[j]? = some u → if k ≤ j ∧ j < k + news.length then news[j - k]? = some u else xs[j]? = some u) :
    Srow (w.setCells b (off + k) news) size ao m cap ys (some b) := by
  rcases h with ⟨_, _, _, _, h⟩ | ⟨b', off', h1, h2, h3, h4, h5, hb, hc, hf, hx⟩
  · cases h
  · cases h2
    rw [ha] at h1
    cases h1
    have hs : ∀ j, j < news.length → (w.cell? ⟨b, off + k + j, none⟩).isSome = true := fun j hj => by
      obtain ⟨u, hu⟩ := hc (k + j) (by omega)
      rw [Nat.add_assoc, hu]; rfl
    have hin := World.cell?_setCells_in b news (off + k) w hs
    have hout := World.cell?_setCells_out b news (off + k) w
    refine .inr ⟨b, off, ha, rfl, hm', h4, hl, by rw [setCells_size]; exact hb, fun j hj => ?_, fun j hj => by rw [World.frozen?_setCells]; exact hf j hj, fun j u hj => ?_⟩
    · by_cases hjk : k ≤ j ∧ j < k + news.length
      · have := hin (j - k) (by omega)
        rw [show off + k + (j - k) = off + j by omega] at this
        exact ⟨_, this⟩
      · rw [hout ⟨b, off + j, none⟩ (fun _ _ => by simp; omega)]
        exact hc j hj
    · have := hy j u hj
      by_cases hjk : k ≤ j ∧ j < k + news.length
      · rw [if_pos hjk] at this
        obtain ⟨hlt, he⟩ := List.getElem?_eq_some_iff.1 this
        have := hin (j - k) hlt
        rw [show off + k + (j - k) = off + j by omega] at this
        rw [this, he]
      · rw [if_neg hjk] at this
        rw [hout ⟨b, off + j, none⟩ (fun _ _ => by simp; omega)]
        exact hx j u this

section
variable {P : Program} (w : World)

/-- append onto whatever row. -/
theorem run_app (t ty e : TypeId) (i : TypeInfo) (z : Value) (size bytes : Nat) (ht : P.underlying t = some (.slice e)) (hi : P.info? e = some i) (hz : i.zero = some z)
    (hsize : i.size = size) (hby : i.bytes = bytes) (hzs : z.cells.size = size) (hsz : 0 < size)
    (ao : Option Addr) (n cap : Nat) (xs : List Value) (g : Option Nat) (hrow : Srow w size ao n cap xs g)
    (ad : Addr) (m c : Nat) (news : List Value) (hl : news.length = m * size) (hnews : ∀ j u, news[j]? = some u → w.cell? (ad.add j) = some u) (h1 : ∀ u ∈ news, u.oneCell' = true)
    (h63 : n + m ≤ maxLen) (hbytes : (n + m) * bytes ≤ 140737488355328) :
    ∃ ao' cap' g' w', (Builtin.append_ #[t, t] ty #[.slice ao n cap, .slice (some ad) m c]).run P w = .ok (.slice ao' (n + m) cap') w' ∧ Srow w' size ao' (n + m) cap' (xs ++ news) g' ∧ Chgd (fun k => g = some k) w w' ∧
      (g' = g ∨ ∃ k, g' = some k ∧ w.heap.size ≤ k) := by
  have hrow' := hrow
  rcases hrow with ⟨rfl, rfl, rfl, rfl, rfl⟩ | ⟨b, off, rfl, rfl, h3, h4, h5, hb, hc, hf, hx⟩
  · obtain ⟨v', w', hr, h2, h3, _⟩ := run_append_own (P := P) w w.heap.size t ty e i z size bytes ht hi hz hsize hby hzs hsz (.slice none 0 0) 0 [] (World.ownsRow_nil _ _ _ _) ad m c news hl hnews h1 h63 hbytes (Nat.le_refl _)
    obtain ⟨ao', cap', rfl, hR, hB⟩ := Srow.of_own h2
    refine ⟨ao', cap', _, w', hr, hR, (Chgd.refl _ _).grown h3 (fun k hk => by cases hk), ?_⟩
    cases hg : (Value.slice ao' (0 + m) cap').ownBlock with
    | none => exact .inl rfl
    | some k => exact .inr ⟨k, rfl, hB k hg⟩
  · by_cases hroom : n + m ≤ cap
    · subst hsize
      have hmul : n * i.size + m * i.size ≤ cap * i.size := by rw [← Nat.add_mul]; exact Nat.mul_le_mul_right _ hroom
      have hr := run_append_room_cells (P := P) w t ty e i ht hi b off n cap ad m c news hl hnews h1 hroom
        (fun j hj => by obtain ⟨u, hu⟩ := hc (n * i.size + j) (by omega); rw [Nat.add_assoc, hu]; rfl) (fun j hj => by rw [Nat.add_assoc]; exact hf _ (by omega))
      refine ⟨_, _, _, _, hr, hrow'.wrote rfl (n * i.size) (n + m) news (xs ++ news) (by omega) hroom (by rw [List.length_append, h5, hl, Nat.add_mul]) ?_, setCells_touch _ _ _ _ _ rfl, .inl rfl⟩
      intro j u hj
      by_cases hjx : j < xs.length
      · rw [List.getElem?_append_left hjx] at hj
        rw [if_neg (by omega)]; exact hj
      · rw [List.getElem?_append_right (by omega)] at hj
        have hjl : j - xs.length < news.length := (List.getElem?_eq_some_iff.1 hj).1
        rw [if_pos (by omega), ← h5]; exact hj
    · have hadd : ∀ j, (⟨b, off, none⟩ : Addr).add j = ⟨b, off + j, none⟩ := fun j => by unfold Addr.add; split <;> simp_all
      obtain ⟨v', w', hr, h2, h3'⟩ := run_append_arg_grows (P := P) w t ty e i z size bytes ht hi hz hsize hby hzs hsz ⟨b, off, none⟩ n cap xs h5 (fun j u hj => by rw [hadd]; exact hx j u hj) ad m c news hl hnews (by omega) h63 hbytes
      obtain ⟨ao', cap', rfl, hR, hB⟩ := Srow.of_own h2
      refine ⟨ao', cap', _, w', hr, hR, (Chgd.refl _ _).grown h3' (fun k hk => by cases hk), ?_⟩
      rcases hR with ⟨h0, hn0, h00, hx0, hg0⟩ | ⟨b', off', hao, hg', _⟩
      · omega
      · exact .inr ⟨b', hg', hB b' hg'⟩
end

section
variable {P : Program} (w : World)

/-- append of a string's bytes onto whatever row of bytes. -/
theorem run_app_str (t u ty e : TypeId) (i : TypeInfo) (ht : P.underlying t = some (.slice e)) (hu : P.underlying u = some .string) (hi : P.info? e = some i) (hz : i.zero = some (.int .u8 0))
    (hsize : i.size = 1) (hby : i.bytes = 1) (ao : Option Addr) (n cap : Nat) (xs : List Value) (g : Option Nat) (hrow : Srow w 1 ao n cap xs g) (s : ByteArray)
    (h63 : n + s.size ≤ maxLen) (hbytes : n + s.size ≤ 140737488355328) :
    ∃ ao' cap' g' w', (Builtin.append_ #[t, u] ty #[.slice ao n cap, .string s]).run P w = .ok (.slice ao' (n + s.size) cap') w' ∧ Srow w' 1 ao' (n + s.size) cap' (xs ++ Lib.strCells s) g' ∧ Chgd (fun k => g = some k) w w' ∧
      (g' = g ∨ ∃ k, g' = some k ∧ w.heap.size ≤ k) := by
  have hrow' := hrow
  rcases hrow with ⟨rfl, rfl, rfl, rfl, rfl⟩ | ⟨b, off, rfl, rfl, h3, h4, h5, hb, hc, hf, hx⟩
  · obtain ⟨v', w', hr, h2, h3, _⟩ := Lib.run_append_own_string (P := P) w w.heap.size t u ty e i ht hu hi hz hsize hby (.slice none 0 0) 0 [] (World.ownsRow_nil _ _ _ _) s h63 hbytes (Nat.le_refl _)
    obtain ⟨ao', cap', rfl, hR, hB⟩ := Srow.of_own h2
    refine ⟨ao', cap', _, w', hr, hR, (Chgd.refl _ _).grown h3 (fun k hk => by cases hk), ?_⟩
    cases hg : (Value.slice ao' (0 + s.size) cap').ownBlock with
    | none => exact .inl rfl
    | some k => exact .inr ⟨k, rfl, hB k hg⟩
  · simp only [Nat.mul_one] at h5 hc hf
    have hsl := Lib.strCells_length s
    by_cases hroom : n + s.size ≤ cap
    · have hfs := Lib.run_firstCells_string (P := P) w 1 s
      have hst := run_storeCells_cells (P := P) b (off + n) (Lib.strCells s) 0 w (fun j hj => by obtain ⟨u, hu⟩ := hc (n + j) (by omega); rw [show off + n + 0 + j = off + (n + j) by omega, hu]; rfl)
        (fun j hj => by rw [show off + n + 0 + j = off + (n + j) by omega]; exact hf _ (by omega)) (Lib.strCells_oneCell s)
      simp only [Nat.add_zero] at hst
      have hr : (Builtin.append_ #[t, u] ty #[.slice (some ⟨b, off, none⟩) n cap, .string s]).run P w = .ok (.slice (some ⟨b, off, none⟩) (n + s.size) cap) (w.setCells b (off + n) (Lib.strCells s)) := by
        simp [Builtin.append_, run_underlying ht, run_underlying hu, sizeOf, typeInfo, hi, hsize, Builtin.lenOf, hroom, hfs, Addr.add_lit, hst]
      refine ⟨_, _, _, _, hr, hrow'.wrote rfl n (n + s.size) (Lib.strCells s) (xs ++ Lib.strCells s) (by omega) hroom (by rw [List.length_append, h5, hsl]; omega) ?_, setCells_touch _ _ _ _ _ rfl, .inl rfl⟩
      intro j u hj
      by_cases hjx : j < xs.length
      · rw [List.getElem?_append_left hjx] at hj
        rw [if_neg (by omega)]; exact hj
      · rw [List.getElem?_append_right (by omega)] at hj
        have hjl : j - xs.length < (Lib.strCells s).length := (List.getElem?_eq_some_iff.1 hj).1
        rw [if_pos (by omega), ← h5]; exact hj
    · have hadd : ∀ j, (⟨b, off, none⟩ : Addr).add j = ⟨b, off + j, none⟩ := fun j => by unfold Addr.add; split <;> simp_all
      have hr := Lib.run_append_grow_string (P := P) w t u ty e i (.int .u8 0) ht hu hi hz ⟨b, off, none⟩ n cap xs (by rw [hsize]; simpa using h5) (fun j v hj => by rw [hadd]; exact hx j v hj) s (by omega) (by omega) (by rw [hby]; exact growslice_fits (by omega) (by omega))
      have hge := grownCap_ge w (n + s.size) cap e
      have hcm : grownCap w (n + s.size) cap e ≤ maxLen := grownCap_le_maxLen w (n + s.size) cap e h63
      obtain ⟨C, hC⟩ : ∃ C, C = xs.toArray ++ (Lib.strCells s).toArray ++ Builtin.zeroCells (Value.int .u8 0).cells (grownCap w (n + s.size) cap e - (n + s.size)) := ⟨_, rfl⟩
      rw [← hC] at hr
      have hown : (w.drew.alloc (.cells C e)).ownsRow w.heap.size e 1 (.slice (some ⟨w.heap.size, 0, none⟩) (n + s.size) (grownCap w (n + s.size) cap e)) (n + s.size) (xs ++ Lib.strCells s) := by
        refine ⟨by rw [List.length_append, h5, hsl]; omega, .inr ⟨w.heap.size, _, _, rfl, Nat.le_refl _, heap_alloc_new w.drew _, hge, hcm, ?_, ?_⟩⟩
        · rw [hC]
          have hz1 : (Value.int IntKind.u8 0).cells.size = 1 := rfl
          simp only [Array.size_append, List.size_toArray, size_zeroCells, hz1, h5, hsl]
          omega
        · rw [hC]
          simp only [Array.toList_append, List.append_assoc]
          rw [← List.append_assoc, show (n + s.size) * 1 = (xs ++ Lib.strCells s).length by rw [List.length_append, h5, hsl]; omega]
          exact List.take_left
      obtain ⟨ao', cap', hv, hR, hB⟩ := Srow.of_own hown
      cases hv
      exact ⟨_, _, _, _, hr, hR, (Chgd.refl _ _).drew.alloc _, .inr ⟨_, rfl, Nat.le_refl _⟩⟩
end

section
variable {P : Program} {w : World} {ops : Array Oper} {o : Oper} {a : Act} {K : Act → World → Prop} {Q : Exit → Act → World → Prop}

theorem wp_app (s x : Operand) (t : TypeId) (ho : o.op = .call { callee := .builtin .append, args := #[s, x], argTypes := #[t, t] })
    (e : TypeId) (i : TypeInfo) (z : Value) (size bytes : Nat) (ht : P.underlying t = some (.slice e)) (hi : P.info? e = some i) (hz : i.zero = some z)
    (hsize : i.size = size) (hby : i.bytes = bytes) (hzs : z.cells.size = size) (hsz : 0 < size)
    (ao : Option Addr) (n cap : Nat) (xs : List Value) (g : Option Nat) (hs : a.eval s = .slice ao n cap) (hrow : Srow w size ao n cap xs g)
    (ad : Addr) (m c : Nat) (news : List Value) (hx : a.eval x = .slice (some ad) m c) (hl : news.length = m * size) (hnews : ∀ j u, news[j]? = some u → w.cell? (ad.add j) = some u) (h1 : ∀ u ∈ news, u.oneCell' = true)
    (h63 : n + m ≤ maxLen) (hbytes : (n + m) * bytes ≤ 140737488355328)
    (h : ∀ ao' cap' g' w', Srow w' size ao' (n + m) cap' (xs ++ news) g' → Chgd (fun k => g = some k) w w' → (g' = g ∨ ∃ k, g' = some k ∧ w.heap.size ≤ k) → K (a.put o.dst (.slice ao' (n + m) cap')) w') :
    o.wp P a w K Q := by
  obtain ⟨ao', cap', g', w', hr, h2, h3, h4⟩ := run_app (P := P) w t o.type e i z size bytes ht hi hz hsize hby hzs hsz ao n cap xs g hrow ad m c news hl hnews h1 h63 hbytes
  unfold Oper.wp execOp
  simp only [ho, resolve, invoke, builtin, Sem.run_bind, Sem.run_pure, Result.andThen_ok, List.map_toArray, List.map_cons, List.map_nil, hs, hx, hr]
  exact h ao' cap' g' w' h2 h3 h4

/-- append at a step of a region that draws its order ('go_region_law'). -/
theorem step_app {E : Prop} (hgd : o.guard = none) (s x : Operand) (t : TypeId) (ho : o.op = .call { callee := .builtin .append, args := #[s, x], argTypes := #[t, t] })
    (e : TypeId) (i : TypeInfo) (z : Value) (size bytes : Nat) (ht : P.underlying t = some (.slice e)) (hi : P.info? e = some i) (hz : i.zero = some z)
    (hsize : i.size = size) (hby : i.bytes = bytes) (hzs : z.cells.size = size) (hsz : 0 < size)
    (ao : Option Addr) (n cap : Nat) (xs : List Value) (g : Option Nat) (hs : a.eval s = .slice ao n cap) (hrow : Srow w size ao n cap xs g)
    (ad : Addr) (m c : Nat) (news : List Value) (hx : a.eval x = .slice (some ad) m c) (hl : news.length = m * size) (hnews : ∀ j u, news[j]? = some u → w.cell? (ad.add j) = some u) (h1 : ∀ u ∈ news, u.oneCell' = true)
    (h63 : n + m ≤ maxLen) (hbytes : (n + m) * bytes ≤ 140737488355328)
    (h : ∀ ao' cap' g' w', Srow w' size ao' (n + m) cap' (xs ++ news) g' → Chgd (fun k => g = some k) w w' → (g' = g ∨ ∃ k, g' = some k ∧ w.heap.size ≤ k) → K (a.put o.dst (.slice ao' (n + m) cap')) w') :
    if Region.wanted o (yielded ops a.tmps) = true then Oper.wp P o a w K Q else E := by
  have hw : Region.wanted o (yielded ops a.tmps) = true := by simp [Region.wanted, hgd]
  rw [if_pos hw]
  exact wp_app s x t ho e i z size bytes ht hi hz hsize hby hzs hsz ao n cap xs g hs hrow ad m c news hx hl hnews h1 h63 hbytes h

theorem news_one {w : World} {B : Nat} {u : Value} {t : TypeId} (hB : w.heap[B]? = some (.cells #[u] t (0, 0))) : ∀ j v, [u][j]? = some v → w.cell? ((⟨B, 0, none⟩ : Addr).add j) = some v := by
  intro j v hj
  match j, hj with
  | 0, hj =>
    simp only [List.getElem?_cons_zero, Option.some.injEq] at hj
    subst hj
    have e : (⟨B, 0, none⟩ : Addr).add 0 = ⟨B, 0, none⟩ := by unfold Addr.add; split <;> simp_all
    rw [e]
    unfold World.cell?
    rw [hB]
    rfl
/-- append of one element, which lies in a box of its own, at a step of a region that draws. -/
theorem step_app1 {E : Prop} (hgd : o.guard = none) (s x : Operand) (t : TypeId) (ho : o.op = .call { callee := .builtin .append, args := #[s, x], argTypes := #[t, t] })
    (e : TypeId) (i : TypeInfo) (z : Value) (bytes : Nat) (ht : P.underlying t = some (.slice e)) (hi : P.info? e = some i) (hz : i.zero = some z)
    (hsize : i.size = 1) (hby : i.bytes = bytes) (hzs : z.cells.size = 1)
    (ao : Option Addr) (n cap : Nat) (xs : List Value) (g : Option Nat) (hs : a.eval s = .slice ao n cap) (hrow : Srow w 1 ao n cap xs g)
    (B : Nat) (u : Value) (t' : TypeId) (hx : a.eval x = .slice (some ⟨B, 0, none⟩) 1 1) (hB : w.heap[B]? = some (.cells #[u] t' (0, 0))) (h1 : u.oneCell' = true)
    (h63 : n + 1 ≤ maxLen) (hbytes : (n + 1) * bytes ≤ 140737488355328)
    (h : ∀ ao' cap' g' w', Srow w' 1 ao' (n + 1) cap' (xs ++ [u]) g' → Chgd (fun k => g = some k) w w' → (g' = g ∨ ∃ k, g' = some k ∧ w.heap.size ≤ k) → K (a.put o.dst (.slice ao' (n + 1) cap')) w') :
    if Region.wanted o (yielded ops a.tmps) = true then Oper.wp P o a w K Q else E :=
  step_app hgd s x t ho e i z 1 bytes ht hi hz hsize hby hzs (by decide) ao n cap xs g hs hrow ⟨B, 0, none⟩ 1 1 [u] hx rfl (news_one hB) (by simpa using h1) h63 hbytes h

/-- append in a plain list of operations. -/
theorem wpList_app {rest : List Oper} (hgd : o.guard = none) (s x : Operand) (t : TypeId) (ho : o.op = .call { callee := .builtin .append, args := #[s, x], argTypes := #[t, t] })
    (e : TypeId) (i : TypeInfo) (z : Value) (size bytes : Nat) (ht : P.underlying t = some (.slice e)) (hi : P.info? e = some i) (hz : i.zero = some z)
    (hsize : i.size = size) (hby : i.bytes = bytes) (hzs : z.cells.size = size) (hsz : 0 < size)
    (ao : Option Addr) (n cap : Nat) (xs : List Value) (g : Option Nat) (hs : a.eval s = .slice ao n cap) (hrow : Srow w size ao n cap xs g)
    (ad : Addr) (m c : Nat) (news : List Value) (hx : a.eval x = .slice (some ad) m c) (hl : news.length = m * size) (hnews : ∀ j u, news[j]? = some u → w.cell? (ad.add j) = some u) (h1 : ∀ u ∈ news, u.oneCell' = true)
    (h63 : n + m ≤ maxLen) (hbytes : (n + m) * bytes ≤ 140737488355328)
    (h : ∀ ao' cap' g' w', Srow w' size ao' (n + m) cap' (xs ++ news) g' → Chgd (fun k => g = some k) w w' → (g' = g ∨ ∃ k, g' = some k ∧ w.heap.size ≤ k) → wpList P ops Q rest (a.put o.dst (.slice ao' (n + m) cap')) w') :
    wpList P ops Q (o :: rest) a w :=
  wpList_plain hgd fun _ hK => wp_app s x t ho e i z size bytes ht hi hz hsize hby hzs hsz ao n cap xs g hs hrow ad m c news hx hl hnews h1 h63 hbytes fun ao' cap' g' w' h2 h3 h4 => hK _ _ (h ao' cap' g' w' h2 h3 h4)
end

section
variable {P : Program} {w : World} {ops : Array Oper} {o : Oper} {a : Act} {K : Act → World → Prop} {Q : Exit → Act → World → Prop}
theorem wp_app_str (s x : Operand) (t u : TypeId) (ho : o.op = .call { callee := .builtin .append, args := #[s, x], argTypes := #[t, u] })
    (e : TypeId) (i : TypeInfo) (ht : P.underlying t = some (.slice e)) (hu : P.underlying u = some .string) (hi : P.info? e = some i) (hz : i.zero = some (.int .u8 0)) (hsize : i.size = 1) (hby : i.bytes = 1)
    (ao : Option Addr) (n cap : Nat) (xs : List Value) (g : Option Nat) (hs : a.eval s = .slice ao n cap) (hrow : Srow w 1 ao n cap xs g) (str : ByteArray) (hx : a.eval x = .string str)
    (h63 : n + str.size ≤ maxLen) (hbytes : n + str.size ≤ 140737488355328)
    (h : ∀ ao' cap' g' w', Srow w' 1 ao' (n + str.size) cap' (xs ++ Lib.strCells str) g' → Chgd (fun k => g = some k) w w' → (g' = g ∨ ∃ k, g' = some k ∧ w.heap.size ≤ k) → K (a.put o.dst (.slice ao' (n + str.size) cap')) w') :
    o.wp P a w K Q := by
  obtain ⟨ao', cap', g', w', hr, h2, h3, h4⟩ := run_app_str (P := P) w t u o.type e i ht hu hi hz hsize hby ao n cap xs g hrow str h63 hbytes
  unfold Oper.wp execOp
  simp only [ho, resolve, invoke, builtin, Sem.run_bind, Sem.run_pure, Result.andThen_ok, List.map_toArray, List.map_cons, List.map_nil, hs, hx, hr]
  exact h ao' cap' g' w' h2 h3 h4
theorem wpList_app_str {rest : List Oper} (hgd : o.guard = none) (s x : Operand) (t u : TypeId) (ho : o.op = .call { callee := .builtin .append, args := #[s, x], argTypes := #[t, u] })
    (e : TypeId) (i : TypeInfo) (ht : P.underlying t = some (.slice e)) (hu : P.underlying u = some .string) (hi : P.info? e = some i) (hz : i.zero = some (.int .u8 0)) (hsize : i.size = 1) (hby : i.bytes = 1)
    (ao : Option Addr) (n cap : Nat) (xs : List Value) (g : Option Nat) (hs : a.eval s = .slice ao n cap) (hrow : Srow w 1 ao n cap xs g) (str : ByteArray) (hx : a.eval x = .string str)
    (h63 : n + str.size ≤ maxLen) (hbytes : n + str.size ≤ 140737488355328)
    (h : ∀ ao' cap' g' w', Srow w' 1 ao' (n + str.size) cap' (xs ++ Lib.strCells str) g' → Chgd (fun k => g = some k) w w' → (g' = g ∨ ∃ k, g' = some k ∧ w.heap.size ≤ k) → wpList P ops Q rest (a.put o.dst (.slice ao' (n + str.size) cap')) w') :
    wpList P ops Q (o :: rest) a w :=
  wpList_plain hgd fun _ hK => wp_app_str s x t u ho e i ht hu hi hz hsize hby ao n cap xs g hs hrow str hx h63 hbytes fun ao' cap' g' w' h2 h3 h4 => hK _ _ (h ao' cap' g' w' h2 h3 h4)
end
theorem strCells_bstr (l : List UInt8) : Lib.strCells ⟨l.toArray⟩ = l.map fun c => Value.int .u8 (c.toNat : Int) := rfl
theorem news_blk {w : World} {B : Nat} {cs : List Value} {t : TypeId} (hB : w.heap[B]? = some (.cells cs.toArray t (0, 0))) : ∀ j v, cs[j]? = some v → w.cell? ((⟨B, 0, none⟩ : Addr).add j) = some v := by
  intro j v hj
  have e : (⟨B, 0, none⟩ : Addr).add j = ⟨B, j, none⟩ := by unfold Addr.add; split <;> simp_all
  rw [e]
  unfold World.cell?
  rw [hB]
  simpa using hj

section
variable {P : Program} {w : World} {ops : Array Oper} {o : Oper} {a : Act} {Q : Exit → Act → World → Prop}
/-- append of one element, which lies in a box of its own, in a plain list of operations. -/
theorem wpList_app1 {rest : List Oper} (hgd : o.guard = none) (s x : Operand) (t : TypeId) (ho : o.op = .call { callee := .builtin .append, args := #[s, x], argTypes := #[t, t] })
    (e : TypeId) (i : TypeInfo) (z : Value) (bytes : Nat) (ht : P.underlying t = some (.slice e)) (hi : P.info? e = some i) (hz : i.zero = some z)
    (hsize : i.size = 1) (hby : i.bytes = bytes) (hzs : z.cells.size = 1)
    (ao : Option Addr) (n cap : Nat) (xs : List Value) (g : Option Nat) (hs : a.eval s = .slice ao n cap) (hrow : Srow w 1 ao n cap xs g)
    (B : Nat) (u : Value) (t' : TypeId) (hx : a.eval x = .slice (some ⟨B, 0, none⟩) 1 1) (hB : w.heap[B]? = some (.cells #[u] t' (0, 0))) (h1 : u.oneCell' = true)
    (h63 : n + 1 ≤ maxLen) (hbytes : (n + 1) * bytes ≤ 140737488355328)
    (h : ∀ ao' cap' g' w', Srow w' 1 ao' (n + 1) cap' (xs ++ [u]) g' → Chgd (fun k => g = some k) w w' → (g' = g ∨ ∃ k, g' = some k ∧ w.heap.size ≤ k) → wpList P ops Q rest (a.put o.dst (.slice ao' (n + 1) cap')) w') :
    wpList P ops Q (o :: rest) a w :=
  wpList_app hgd s x t ho e i z 1 bytes ht hi hz hsize hby hzs (by decide) ao n cap xs g hs hrow ⟨B, 0, none⟩ 1 1 [u] hx rfl (news_one hB) (by simpa using h1) h63 hbytes h
end
/-- Behind an append whose one new element lay in a new box. -/
theorem from_alloc' {S : Nat → Prop} {wr w1 : World} {o : Obj} {g g1 : Option Nat} (hch : Chgd S (wr.alloc o) w1) (hg : g1 = g ∨ ∃ k, g1 = some k ∧ (wr.alloc o).heap.size ≤ k) :
    Chgd S wr w1 ∧ (g1 = g ∨ ∃ k, g1 = some k ∧ wr.heap.size ≤ k) := by
  refine ⟨((Chgd.refl _ wr).alloc _).trans hch (fun _ _ h => h), ?_⟩
  rcases hg with h | ⟨k, h, h'⟩
  · exact .inl h
  · exact .inr ⟨k, h, by
      have e : (wr.alloc o).heap.size = wr.heap.size + 1 := by show (wr.heap.push o).size = _; simp
      omega⟩
/-- One append behind another. -/
theorem two_rows {w w1 w2 : World} {g g1 g2 : Option Nat} (h1 : Chgd (fun k => g = some k) w w1) (r1 : g1 = g ∨ ∃ k, g1 = some k ∧ w.heap.size ≤ k)
    (h2 : Chgd (fun k => g1 = some k) w1 w2) (r2 : g2 = g1 ∨ ∃ k, g2 = some k ∧ w1.heap.size ≤ k) : Chgd (fun k => g = some k) w w2 ∧ (g2 = g ∨ ∃ k, g2 = some k ∧ w.heap.size ≤ k) := by
  refine ⟨h1.trans h2 ?_, ?_⟩
  · intro j hj hg
    rcases r1 with rfl | ⟨k, rfl, hk⟩
    · exact hg
    · cases hg; omega
  · rcases r2 with rfl | ⟨k, rfl, hk⟩
    · exact r1
    · exact .inr ⟨k, rfl, Nat.le_trans h1.size hk⟩

/-- Behind an append whose one new element lay in a new box. -/
theorem from_alloc {S : Nat → Prop} {wr w1 : World} {o : Obj} {g g1 : Option Nat} (hch : Chgd S (wr.alloc o).drew w1) (hg : g1 = g ∨ ∃ k, g1 = some k ∧ (wr.alloc o).drew.heap.size ≤ k) :
    Chgd S wr w1 ∧ (g1 = g ∨ ∃ k, g1 = some k ∧ wr.heap.size ≤ k) := by
  refine ⟨((Chgd.refl _ wr).alloc _).drew.trans hch (fun _ _ h => h), ?_⟩
  rcases hg with h | ⟨k, h, h'⟩
  · exact .inl h
  · exact .inr ⟨k, h, by
      have e : (wr.alloc o).drew.heap.size = wr.heap.size + 1 := by show (wr.heap.push o).size = _; simp
      omega⟩

/-! ### Bytes -/
def cellsOf (l : List UInt8) : List Value := l.map fun c => Value.int .u8 (c.toNat : Int)
def bstr (l : List UInt8) : ByteArray := ⟨l.toArray⟩
theorem cellsOf_length (l : List UInt8) : (cellsOf l).length = l.length := by simp [cellsOf]
theorem cellsOf_append (l m : List UInt8) : cellsOf (l ++ m) = cellsOf l ++ cellsOf m := by simp [cellsOf]
theorem cellsOf_one (l : List UInt8) : ∀ u ∈ cellsOf l, u.oneCell' = true := by
  intro u hu
  simp only [cellsOf, List.mem_map] at hu
  obtain ⟨c, _, rfl⟩ := hu
  rfl
theorem bstr_size (l : List UInt8) : (bstr l).size = l.length := by simp [bstr, ByteArray.size]
theorem bstr_list (l : List UInt8) : (bstr l).data.toList = l := rfl
theorem bstr_of (s : ByteArray) : bstr s.data.toList = s := rfl
theorem size_list (s : ByteArray) : s.data.toList.length = s.size := by rw [Array.length_toList]; rfl
theorem bstr_append (l m : List UInt8) : bstr l ++ bstr m = bstr (l ++ m) := by
  apply ByteArray.ext
  simp [bstr, ByteArray.data_append]
theorem bstr_toList (l : List UInt8) : (bstr l).toList = l := by rw [Lib.toList_data]; rfl
theorem ret_bool {a b : Bool} (h : a = b) : Ending.returned (.bool a) = .returned (.bool b) := by rw [h]
theorem ret_str2 {a b : ByteArray} {v : Value} (h : a = b) : Ending.returned (.tuple #[.string a, v]) = .returned (.tuple #[.string b, v]) := by rw [h]
theorem bstr_inj {l m : List UInt8} (h : bstr l = bstr m) : l = m := by
  have := congrArg (fun s : ByteArray => s.data.toList) h
  simpa [bstr] using this
/-- string(b), b a row of bytes. -/
theorem Srow.to_string {P : Program} {w : World} {ao : Option Addr} {n cap : Nat} {l : List UInt8} {g : Option Nat} {src e dst : TypeId} (h : Srow w 1 ao n cap (cellsOf l) g)
    (hs : P.underlying src = some (.slice e)) (he : P.underlying e = some (.int .u8)) (hd : P.underlying dst = some .string) :
    (convert src dst (.slice ao n cap)).run P w = .ok (.string (bstr l)) w := by
  rcases h with ⟨rfl, rfl, rfl, hx, _⟩ | ⟨b, off, rfl, _, _, _, hl, _, _, _, hx⟩
  · have : l = [] := by simpa [cellsOf] using hx
    subst this
    exact run_convert_bytes_nil w src e hs he 0 0 dst hd
  · have hl' : l.length = n := by simpa [cellsOf] using hl
    have hr := run_convert_bytes_arg (P := P) w src e hs he b off n cap (l.map fun c => (c.toNat : Int)) (by simpa using hl') (fun i hi => hx i _ (by
      simp [cellsOf, List.getD, hl', hi])) dst hd
    rw [hr]
    simp [strOfNums, bstr, Function.comp_def]

end Go.Proofs.YtomalanncdcopaaDoor.Mem
