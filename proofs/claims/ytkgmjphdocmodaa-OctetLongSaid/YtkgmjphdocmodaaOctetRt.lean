/- Reader.Text: it puts back what was read, if something goes wrong. -/
import Derived.Test.YtkgmjphdocmodaaOctetRh
namespace Go.Proofs.Ytkgmjphdocmodaa.Octet
open Go.RowKit Go.Proofs.Ytkgmjphdocmodaa.Mem

theorem back_any (p q : Nat) (s : List UInt8) (w : World) (h : Rd w p s) :
    Calls Try.prog 29 #[.pointer (some ⟨p, 0, none⟩), .pointer (some ⟨q, 0, none⟩)] w fun r w' =>
      r = .returned (.func (.func 31) #[] #[.pointer (some ⟨w.heap.size + 1, 0, none⟩), .pointer (some ⟨w.heap.size + 2, 0, none⟩), .pointer (some ⟨w.heap.size, 0, none⟩)]) ∧
      w'.cell? ⟨w.heap.size, 0, none⟩ = some (.pointer (some ⟨p, 0, none⟩)) ∧ w'.cell? ⟨w.heap.size + 1, 0, none⟩ = some (.pointer (some ⟨q, 0, none⟩)) ∧ w'.cell? ⟨w.heap.size + 2, 0, none⟩ = some (.string (bstr s)) ∧
      OnlyNew w w' ∧ w'.heap.size = w.heap.size + 3 := by
  obtain ⟨hc, hf⟩ := h
  have hlt := block_lt hc
  have hmf : ∀ (fn : Fn) (first cap : Array Value) (w : World), (Instr.makeFunc fn first cap).run Try.prog w = .ok (.func fn first cap) w := fun _ _ _ _ => rfl
  go_enter Try.func29, Try.ntmps29
  go_wp2
  go_ret
  refine ⟨rfl, ?_, ?_, ?_, (((Chgd.refl _ _).alloc _).alloc _).alloc _, by simp⟩
  · simp [go_sem]
  · simp [go_sem]
  · simp [go_sem]

theorem undo_ok (a0 a1 a2 q : Nat) (u : FrameMode) (w : World) (h1 : w.cell? ⟨a1, 0, none⟩ = some (.pointer (some ⟨q, 0, none⟩))) (h2 : w.cell? ⟨q, 0, none⟩ = some (.int .i64 0)) :
    CallsD Try.prog 31 #[.pointer (some ⟨a1, 0, none⟩), .pointer (some ⟨a2, 0, none⟩), .pointer (some ⟨a0, 0, none⟩)] u w fun e u' w' => u' = u ∧ (e = .returned (.tuple #[]) ∧ w' = w) := by
  go_enter_d Try.func31, Try.ntmps31
  go_wp2
  go_end0
  exact ⟨rfl, rfl⟩

theorem undo_err (a0 a1 a2 q p : Nat) (x : Int) (v : Value) (s : ByteArray) (u : FrameMode) (w : World) (h1 : w.cell? ⟨a1, 0, none⟩ = some (.pointer (some ⟨q, 0, none⟩))) (h2 : w.cell? ⟨q, 0, none⟩ = some (.int .i64 x)) (hx : (x != 0) = true)
    (h0 : w.cell? ⟨a0, 0, none⟩ = some (.pointer (some ⟨p, 0, none⟩))) (h3 : w.cell? ⟨a2, 0, none⟩ = some (.string s)) (h4 : w.cell? ⟨p, 0, none⟩ = some v) (h5 : w.frozen? ⟨p, 0, none⟩ = false) :
    CallsD Try.prog 31 #[.pointer (some ⟨a1, 0, none⟩), .pointer (some ⟨a2, 0, none⟩), .pointer (some ⟨a0, 0, none⟩)] u w fun e u' w' => u' = u ∧ (e = .returned (.tuple #[]) ∧ w' = w.setCell ⟨p, 0, none⟩ (.string s)) := by
  go_enter_d Try.func31, Try.ntmps31
  go_wp2
  go_end0
  exact ⟨rfl, rfl⟩

theorem rnumber1 (p : Nat) (c : UInt8) (t : List UInt8) (w : World) (h : Rd w p (c :: t)) (hs : t.length ≤ 100000000000) :
    Calls Try.prog 20 #[.pointer (some ⟨p, 0, none⟩), .int .i64 1] w fun r w' => r = .returned (.tuple #[.int .u64 c.toNat, .int .i64 0]) ∧ Rd w' p t ∧ Only p w w' := by
  refine (rnumber_ok p (c :: t) 1 w h (by simp; omega) (by omega) (by omega) (by simp)).mono fun r w' h => ?_
  simpa [val] using h

set_option maxHeartbeats 2000000 in
theorem rtext_ok (p : Nat) (c : UInt8) (t : List UInt8) (w : World) (h : Rd w p (c :: t)) (hs : t.length ≤ 100000000000) (hc : c.toNat ≤ 64) (hk : c.toNat ≤ t.length) :
    Calls Try.prog 18 #[.pointer (some ⟨p, 0, none⟩)] w fun r w' => r = .returned (.tuple #[.string (bstr (t.take c.toNat)), .int .i64 0]) ∧ Rd w' p (t.drop c.toNat) ∧ Only p w w' := by
  have hlt := h.lt
  have hne : ¬ p = w.heap.size := by omega
  have hne' : ¬ w.heap.size = p := by omega
  obtain ⟨k, hkc⟩ : ∃ k, k = c.toNat := ⟨_, rfl⟩
  obtain ⟨T, hT⟩ : ∃ T, T = bstr (t.take k) := ⟨_, rfl⟩
  rw [← hkc] at hc hk ⊢
  rw [← hT]
  have HK := Lib.hid hkc
  have HT := Lib.hid hT
  clear hkc hT
  go_enter_defers Try.func18, Try.ntmps18
  go_wp2_with fail
  refine (back_any p w.heap.size (c :: t) _ (h.keep ((Chgd.refl (fun _ => False) _).alloc _) (fun h => h))).mono ?_
  rintro e w1 ⟨rfl, b0, b1, b2, hO1, hz1⟩
  have e1 := hO1.at_ (p := ⟨w.heap.size, 0, none⟩) (v := .int .i64 0) (by simp [go_sem]) (fun h => h)
  have e2 := (hO1.frozen (p := ⟨w.heap.size, 0, none⟩) (by simp) (fun h => h)).trans (show _ = false by simp [go_sem])
  have hR1 : Rd w1 p (c :: t) := (h.keep ((Chgd.refl (fun _ => False) _).alloc _) (fun h => h)).keep hO1 (fun h => h)
  have hC1 : OnlyNew w w1 := ((Chgd.refl _ w).alloc _).trans hO1 (fun _ _ h => h)
  simp only [World.size_alloc] at b0 b1 b2 hz1
  have hz : w.heap.size + 3 < w1.heap.size := by omega
  clear hz1 hO1
  go_wp2_with fail
  refine (rnumber1 p c t w1 hR1 hs).mono ?_
  rintro e w2 ⟨rfl, hR2, hO2⟩
  rw [← HK.out]
  replace b0 := hO2.at_ b0 (by simp; omega)
  replace b1 := hO2.at_ b1 (by simp; omega)
  replace b2 := hO2.at_ b2 (by simp; omega)
  replace e2 := (hO2.frozen (p := ⟨w.heap.size, 0, none⟩) (block_lt e1) (by simp; omega)).trans e2
  replace e1 := hO2.at_ e1 (by simp; omega)
  have hC2 : Only p w w2 := (hC1.mono (fun _ _ h => h.elim)).trans hO2 (fun _ _ h => h)
  have hz2 := hO2.size
  clear hR1 hO2 hC1
  go_wp2_with fail
  have C2 : Chgd (fun j => j = w.heap.size) w2 (w2.setCell ⟨w.heap.size, 0, none⟩ (.int .i64 0)) := (Chgd.refl (fun j => j = w.heap.size) w2).setCell (p := ⟨w.heap.size, 0, none⟩) (fun _ => rfl) _
  refine (take_ok p t k _ (hR2.keep C2 hne) (by omega) hk).mono ?_
  rintro e w3 ⟨rfl, hR3, hO3⟩
  rw [← HT.out]
  have c1 := hO3.at_ (C2.at_ b1 (by simp; omega)) (by simp; omega)
  have c2 := hO3.at_ (World.cell?_setCell_same w2 _ (.int .i64 0) e1) (by simp; omega)
  have c3 := (hO3.frozen (p := ⟨w.heap.size, 0, none⟩) (by have := block_lt e1; simpa using this) (by simp; omega)).trans (show _ = false by rw [World.frozen?_setCell]; exact e2)
  have hC3 : Only p w w3 := (hC2.trans C2 (fun j hj e => by omega)).trans hO3 (fun _ _ h => h)
  clear b0 b1 b2 e1 e2 C2 hO3 hC2 hR2
  go_wp2
  refine leaves_cons (f := 31) (args := #[.pointer (some ⟨w.heap.size + 1 + 1, 0, none⟩), .pointer (some ⟨w.heap.size + 1 + 2, 0, none⟩), .pointer (some ⟨w.heap.size + 1, 0, none⟩)]) (by simp) (by simp [go_sem]) ?_
  refine (undo_ok _ _ _ w.heap.size .returning _ ?_ ?_).mono ?_
  · rw [World.cell?_setCell_other _ _ _ _ (by simp)]; exact c1
  · exact World.cell?_setCell_same w3 _ (.int .i64 0) c2
  rintro e u' w4 ⟨rfl, rfl, rfl⟩
  have c5 := World.cell?_setCell_same w3 ⟨w.heap.size, 0, none⟩ (.int .i64 0) c2
  have hO4 : Chgd (fun j => j = w.heap.size) w3 (w3.setCell ⟨w.heap.size, 0, none⟩ (.int .i64 0)) := (Chgd.refl (fun j => j = w.heap.size) w3).setCell (p := ⟨w.heap.size, 0, none⟩) (fun _ => rfl) _
  have hfin : Rd (w3.setCell ⟨w.heap.size, 0, none⟩ (.int .i64 0)) p (t.drop k) ∧ Only p w (w3.setCell ⟨w.heap.size, 0, none⟩ (.int .i64 0)) := ⟨hR3.keep hO4 hne, hC3.trans hO4 (fun j hj e => by omega)⟩
  refine ⟨.tuple #[.string T, .int .i64 0], ?_, rfl, hfin⟩
  simp [results, Try.results18, go_sem, c5]

/-- The deferred closure puts the reader back: the door of Text, where something has gone wrong. -/
theorem text_door (p N : Nat) (w W : World) (tmps : Array Value) (s0 s : List UInt8) (x : Int) (B : ByteArray) (hB : B = bstr s) (h2 : tmps.getD 2 undef = .string ⟨#[]⟩) (h3 : tmps.getD 3 undef = .pointer (some ⟨N, 0, none⟩)) (hx : (x != 0) = true)
    (hne : ¬ p = N) (b0 : W.cell? ⟨N + 1, 0, none⟩ = some (.pointer (some ⟨p, 0, none⟩))) (b1 : W.cell? ⟨N + 1 + 1, 0, none⟩ = some (.pointer (some ⟨N, 0, none⟩))) (b2 : W.cell? ⟨N + 1 + 2, 0, none⟩ = some (.string B))
    (e1 : W.cell? ⟨N, 0, none⟩ = some (.int .i64 x)) (hR : Rd W p s0) (hC : Only p w W) :
    bodyPostD Try.prog Try.f18 (fun r w' => r = .returned (.tuple #[.string ⟨#[]⟩, .int .i64 x]) ∧ Rd w' p s ∧ Only p w w') Exit.ret
      ⟨tmps, [{ target := .fn (.func 31) #[.pointer (some ⟨N + 1 + 1, 0, none⟩), .pointer (some ⟨N + 1 + 2, 0, none⟩), .pointer (some ⟨N + 1, 0, none⟩)], args := #[] }]⟩ W := by
  refine leaves_cons (f := 31) (args := #[.pointer (some ⟨N + 1 + 1, 0, none⟩), .pointer (some ⟨N + 1 + 2, 0, none⟩), .pointer (some ⟨N + 1, 0, none⟩)]) (by simp) (by simp [go_sem]) ?_
  refine (undo_err _ _ _ N p x _ B .returning W b1 e1 hx b0 b2 hR.1 hR.2).mono ?_
  rintro e u' w4 ⟨rfl, rfl, rfl⟩
  subst hB
  have hR4 := hR.set (t := s)
  have c5 : (W.setCell ⟨p, 0, none⟩ (.string (bstr s))).cell? ⟨N, 0, none⟩ = some (.int .i64 x) := by
    have hno : (⟨p, 0, none⟩ : Addr) ≠ ⟨N, 0, none⟩ := fun e => by injection e with e1; exact hne e1
    rw [World.cell?_setCell_other _ _ _ _ hno]; exact e1
  refine ⟨.tuple #[.string ⟨#[]⟩, .int .i64 x], ?_, rfl, hR4.1, hC.trans hR4.2 (fun _ _ h => h)⟩
  simp only [Array.getD_eq_getD_getElem?] at h2 h3
  simp [results, Try.results18, go_sem, c5, h2, h3]

set_option maxHeartbeats 2000000 in
theorem rtext_empty (p : Nat)  (w : World) (h : Rd w p ([]))  :
    Calls Try.prog 18 #[.pointer (some ⟨p, 0, none⟩)] w fun r w' => r = .returned (.tuple #[.string ⟨#[]⟩, .int .i64 10]) ∧ Rd w' p ([]) ∧ Only p w w' := by
  have hlt := h.lt
  have hne : ¬ p = w.heap.size := by omega
  have hne' : ¬ w.heap.size = p := by omega
  go_enter_defers Try.func18, Try.ntmps18
  go_wp2_with fail
  refine (back_any p w.heap.size ([]) _ (h.keep ((Chgd.refl (fun _ => False) _).alloc _) (fun h => h))).mono ?_
  rintro e w1 ⟨rfl, b0, b1, b2, hO1, hz1⟩
  have e1 := hO1.at_ (p := ⟨w.heap.size, 0, none⟩) (v := .int .i64 0) (by simp [go_sem]) (fun h => h)
  have e2 := (hO1.frozen (p := ⟨w.heap.size, 0, none⟩) (by simp) (fun h => h)).trans (show _ = false by simp [go_sem])
  have hR1 : Rd w1 p ([]) := (h.keep ((Chgd.refl (fun _ => False) _).alloc _) (fun h => h)).keep hO1 (fun h => h)
  have hC1 : OnlyNew w w1 := ((Chgd.refl _ w).alloc _).trans hO1 (fun _ _ h => h)
  simp only [World.size_alloc] at b0 b1 b2 hz1
  have hz : w.heap.size + 3 < w1.heap.size := by omega
  clear hz1 hO1
  obtain ⟨B, hB⟩ : ∃ B, B = bstr ([]) := ⟨_, rfl⟩
  rw [← hB] at b2
  have HB := Lib.hid hB
  clear hB
  go_wp2_with fail
  refine (rnumber_short p [] 1 w1 hR1 (by omega) (by omega) (by simp)).mono ?_
  rintro e w2 ⟨rfl, hO2⟩
  replace b0 := hO2.at_ b0 (fun h => h)
  replace b1 := hO2.at_ b1 (fun h => h)
  replace b2 := hO2.at_ b2 (fun h => h)
  replace e2 := (hO2.frozen (p := ⟨w.heap.size, 0, none⟩) (block_lt e1) (fun h => h)).trans e2
  replace e1 := hO2.at_ e1 (fun h => h)
  have hR2 := hR1.keep hO2 (fun h => h)
  have hC2 : Only p w w2 := (hC1.mono (fun _ _ h => h.elim)).trans hO2 (fun _ _ h => h.elim)
  have hz2 := hO2.size
  clear hR1 hO2 hC1
  go_wp2
  go_region
  go_wp2
  have C0 : Chgd (fun j => j = w.heap.size) w2 (w2.setCell ⟨w.heap.size, 0, none⟩ (.int .i64 10)) := (Chgd.refl (fun j => j = w.heap.size) w2).setCell (p := ⟨w.heap.size, 0, none⟩) (fun _ => rfl) _
  have C := (C0.setCell (p := ⟨w.heap.size, 0, none⟩) (fun _ => rfl) (.int .i64 10)).drew
  have d1 := World.cell?_setCell_same w2 ⟨w.heap.size, 0, none⟩ (.int .i64 10) e1
  exact text_door p w.heap.size w _ _ [] [] 10 B HB.out rfl rfl rfl hne (C.at_ b0 (by simp)) (C.at_ b1 (by simp; omega)) (C.at_ b2 (by simp; omega)) (World.cell?_setCell_same _ ⟨w.heap.size, 0, none⟩ (.int .i64 10) d1) (hR2.keep C hne) (hC2.trans C (fun j hj e => by omega))

set_option maxHeartbeats 2000000 in
theorem rtext_wide (p : Nat) (c : UInt8) (t : List UInt8) (w : World) (h : Rd w p (c :: t)) (hs : t.length ≤ 100000000000) (hc : 64 < c.toNat) :
    Calls Try.prog 18 #[.pointer (some ⟨p, 0, none⟩)] w fun r w' => r = .returned (.tuple #[.string ⟨#[]⟩, .int .i64 12]) ∧ Rd w' p (c :: t) ∧ Only p w w' := by
  have hlt := h.lt
  have hne : ¬ p = w.heap.size := by omega
  have hne' : ¬ w.heap.size = p := by omega
  obtain ⟨k, hkc⟩ : ∃ k, k = c.toNat := ⟨_, rfl⟩
  rw [← hkc] at hc
  have HK := Lib.hid hkc
  clear hkc
  go_enter_defers Try.func18, Try.ntmps18
  go_wp2_with fail
  refine (back_any p w.heap.size (c :: t) _ (h.keep ((Chgd.refl (fun _ => False) _).alloc _) (fun h => h))).mono ?_
  rintro e w1 ⟨rfl, b0, b1, b2, hO1, hz1⟩
  have e1 := hO1.at_ (p := ⟨w.heap.size, 0, none⟩) (v := .int .i64 0) (by simp [go_sem]) (fun h => h)
  have e2 := (hO1.frozen (p := ⟨w.heap.size, 0, none⟩) (by simp) (fun h => h)).trans (show _ = false by simp [go_sem])
  have hR1 : Rd w1 p (c :: t) := (h.keep ((Chgd.refl (fun _ => False) _).alloc _) (fun h => h)).keep hO1 (fun h => h)
  have hC1 : OnlyNew w w1 := ((Chgd.refl _ w).alloc _).trans hO1 (fun _ _ h => h)
  simp only [World.size_alloc] at b0 b1 b2 hz1
  have hz : w.heap.size + 3 < w1.heap.size := by omega
  clear hz1 hO1
  obtain ⟨B, hB⟩ : ∃ B, B = bstr (c :: t) := ⟨_, rfl⟩
  rw [← hB] at b2
  have HB := Lib.hid hB
  clear hB
  go_wp2_with fail
  refine (rnumber1 p c t w1 hR1 hs).mono ?_
  rintro e w2 ⟨rfl, hR2, hO2⟩
  rw [← HK.out]
  replace b0 := hO2.at_ b0 (by simp; omega)
  replace b1 := hO2.at_ b1 (by simp; omega)
  replace b2 := hO2.at_ b2 (by simp; omega)
  replace e2 := (hO2.frozen (p := ⟨w.heap.size, 0, none⟩) (block_lt e1) (by simp; omega)).trans e2
  replace e1 := hO2.at_ e1 (by simp; omega)
  have hC2 : Only p w w2 := (hC1.mono (fun _ _ h => h.elim)).trans hO2 (fun _ _ h => h)
  have hz2 := hO2.size
  clear hR1 hO2 hC1
  go_wp2
  have C0 : Chgd (fun j => j = w.heap.size) w2 (w2.setCell ⟨w.heap.size, 0, none⟩ (.int .i64 0)) := (Chgd.refl (fun j => j = w.heap.size) w2).setCell (p := ⟨w.heap.size, 0, none⟩) (fun _ => rfl) _
  have C := C0.setCell (p := ⟨w.heap.size, 0, none⟩) (fun _ => rfl) (.int .i64 12)
  have d1 := World.cell?_setCell_same w2 ⟨w.heap.size, 0, none⟩ (.int .i64 0) e1
  exact text_door p w.heap.size w _ _ t (c :: t) 12 B HB.out rfl rfl rfl hne (C.at_ b0 (by simp)) (C.at_ b1 (by simp; omega)) (C.at_ b2 (by simp; omega)) (World.cell?_setCell_same _ ⟨w.heap.size, 0, none⟩ (.int .i64 12) d1) (hR2.keep C hne) (hC2.trans C (fun j hj e => by omega))

set_option maxHeartbeats 2000000 in
theorem rtext_short (p : Nat) (c : UInt8) (t : List UInt8) (w : World) (h : Rd w p (c :: t)) (hs : t.length ≤ 100000000000) (hc : c.toNat ≤ 64) (hk : t.length < c.toNat) :
    Calls Try.prog 18 #[.pointer (some ⟨p, 0, none⟩)] w fun r w' => r = .returned (.tuple #[.string ⟨#[]⟩, .int .i64 10]) ∧ Rd w' p (c :: t) ∧ Only p w w' := by
  have hlt := h.lt
  have hne : ¬ p = w.heap.size := by omega
  have hne' : ¬ w.heap.size = p := by omega
  obtain ⟨k, hkc⟩ : ∃ k, k = c.toNat := ⟨_, rfl⟩
  rw [← hkc] at hc hk
  have HK := Lib.hid hkc
  clear hkc
  go_enter_defers Try.func18, Try.ntmps18
  go_wp2_with fail
  refine (back_any p w.heap.size (c :: t) _ (h.keep ((Chgd.refl (fun _ => False) _).alloc _) (fun h => h))).mono ?_
  rintro e w1 ⟨rfl, b0, b1, b2, hO1, hz1⟩
  have e1 := hO1.at_ (p := ⟨w.heap.size, 0, none⟩) (v := .int .i64 0) (by simp [go_sem]) (fun h => h)
  have e2 := (hO1.frozen (p := ⟨w.heap.size, 0, none⟩) (by simp) (fun h => h)).trans (show _ = false by simp [go_sem])
  have hR1 : Rd w1 p (c :: t) := (h.keep ((Chgd.refl (fun _ => False) _).alloc _) (fun h => h)).keep hO1 (fun h => h)
  have hC1 : OnlyNew w w1 := ((Chgd.refl _ w).alloc _).trans hO1 (fun _ _ h => h)
  simp only [World.size_alloc] at b0 b1 b2 hz1
  have hz : w.heap.size + 3 < w1.heap.size := by omega
  clear hz1 hO1
  obtain ⟨B, hB⟩ : ∃ B, B = bstr (c :: t) := ⟨_, rfl⟩
  rw [← hB] at b2
  have HB := Lib.hid hB
  clear hB
  go_wp2_with fail
  refine (rnumber1 p c t w1 hR1 hs).mono ?_
  rintro e w2 ⟨rfl, hR2, hO2⟩
  rw [← HK.out]
  replace b0 := hO2.at_ b0 (by simp; omega)
  replace b1 := hO2.at_ b1 (by simp; omega)
  replace b2 := hO2.at_ b2 (by simp; omega)
  replace e2 := (hO2.frozen (p := ⟨w.heap.size, 0, none⟩) (block_lt e1) (by simp; omega)).trans e2
  replace e1 := hO2.at_ e1 (by simp; omega)
  have hC2 : Only p w w2 := (hC1.mono (fun _ _ h => h.elim)).trans hO2 (fun _ _ h => h)
  have hz2 := hO2.size
  clear hR1 hO2 hC1
  go_wp2_with fail
  have C0 : Chgd (fun j => j = w.heap.size) w2 (w2.setCell ⟨w.heap.size, 0, none⟩ (.int .i64 0)) := (Chgd.refl (fun j => j = w.heap.size) w2).setCell (p := ⟨w.heap.size, 0, none⟩) (fun _ => rfl) _
  have hR3 := hR2.keep C0 hne
  refine (take_short p t k _ hR3 (by omega)).mono ?_
  rintro e w3 ⟨rfl, rfl⟩
  have d1 := World.cell?_setCell_same w2 ⟨w.heap.size, 0, none⟩ (.int .i64 0) e1
  go_wp2
  have C := C0.setCell (p := ⟨w.heap.size, 0, none⟩) (fun _ => rfl) (.int .i64 10)
  exact text_door p w.heap.size w _ _ t (c :: t) 10 B HB.out rfl rfl rfl hne (C.at_ b0 (by simp)) (C.at_ b1 (by simp; omega)) (C.at_ b2 (by simp; omega)) (World.cell?_setCell_same _ ⟨w.heap.size, 0, none⟩ (.int .i64 10) d1) (hR2.keep C hne) (hC2.trans C (fun j hj e => by omega))

/-! ### All of it, as plain functions -/
/-- What a text, a number, a hash is read as: the thing, the error, what is left. -/
def textOf : List UInt8 → List UInt8 × Int × List UInt8
  | [] => ([], 10, [])
  | c :: t => if 64 < c.toNat then ([], 12, c :: t) else if t.length < c.toNat then ([], 10, c :: t) else (t.take c.toNat, 0, t.drop c.toNat)
theorem textOf_cons (c : UInt8) (t : List UInt8) : textOf (c :: t) = if 64 < c.toNat then ([], 12, c :: t) else if t.length < c.toNat then ([], 10, c :: t) else (t.take c.toNat, 0, t.drop c.toNat) := rfl
def numOf (k : Int) (s : List UInt8) : Nat × Int × List UInt8 :=
  if k < 1 ∨ 8 < k then (0, 1, s) else if s.length < k.toNat then (0, 10, s) else (val (s.take k.toNat), 0, s.drop k.toNat)
def hashOf (s : List UInt8) : List UInt8 × Int × List UInt8 := if s.length < 32 then (zeros32, 10, s) else (s.take 32, 0, s.drop 32)

theorem rtext_any (p : Nat) (s : List UInt8) (w : World) (h : Rd w p s) (hs : s.length ≤ 100000000000) :
    Calls Try.prog 18 #[.pointer (some ⟨p, 0, none⟩)] w fun r w' => r = .returned (.tuple #[.string (bstr (textOf s).1), .int .i64 (textOf s).2.1]) ∧ Rd w' p (textOf s).2.2 ∧ Only p w w' := by
  cases s with
  | nil => exact rtext_empty p w h
  | cons c t =>
    simp only [List.length_cons] at hs
    rw [textOf_cons]
    by_cases h1 : 64 < c.toNat
    · rw [if_pos h1]
      exact rtext_wide p c t w h (by omega) h1
    · rw [if_neg h1]
      by_cases h2 : t.length < c.toNat
      · rw [if_pos h2]
        exact rtext_short p c t w h (by omega) (by omega) h2
      · rw [if_neg h2]
        exact rtext_ok p c t w h (by omega) (by omega) (by omega)

theorem rnumber_any (p : Nat) (s : List UInt8) (k : Int) (w : World) (h : Rd w p s) (hs : s.length ≤ 100000000000) :
    Calls Try.prog 20 #[.pointer (some ⟨p, 0, none⟩), .int .i64 k] w fun r w' => r = .returned (.tuple #[.int .u64 (numOf k s).1, .int .i64 (numOf k s).2.1]) ∧ Rd w' p (numOf k s).2.2 ∧ Only p w w' := by
  unfold numOf
  by_cases h1 : k < 1 ∨ 8 < k
  · rw [if_pos h1]
    exact (rnumber_arg _ k w h1).mono fun r w' ⟨hr, hw⟩ => ⟨hr, hw ▸ h, hw ▸ Chgd.refl _ _⟩
  · rw [if_neg h1]
    obtain ⟨n, rfl⟩ := Int.eq_ofNat_of_zero_le (show 0 ≤ k by omega)
    rw [Int.toNat_natCast]
    by_cases h2 : s.length < n
    · rw [if_pos h2]
      exact (rnumber_short p s n w h (by omega) (by omega) h2).mono fun r w' ⟨hr, hw⟩ => ⟨hr, h.keep hw (fun h => h), hw.mono (fun _ _ h => h.elim)⟩
    · rw [if_neg h2]
      exact rnumber_ok p s n w h (by omega) (by omega) (by omega) (by omega)

theorem rhash_any (p : Nat) (s : List UInt8) (w : World) (h : Rd w p s) (hs : s.length ≤ 100000000000) :
    Calls Try.prog 22 #[.pointer (some ⟨p, 0, none⟩)] w fun r w' => r = .returned (.tuple #[.agg (cellsOf (hashOf s).1).toArray, .int .i64 (hashOf s).2.1]) ∧ Rd w' p (hashOf s).2.2 ∧ Only p w w' := by
  unfold hashOf
  by_cases h1 : s.length < 32
  · rw [if_pos h1]
    exact (rhash_short p s w h h1).mono fun r w' ⟨hr, hw⟩ => ⟨hr, h.keep hw (fun h => h), hw.mono (fun _ _ h => h.elim)⟩
  · rw [if_neg h1]
    exact rhash_ok p s w h (by omega) (by omega)

theorem numOf_len (k : Int) (s : List UInt8) : (numOf k s).2.2.length ≤ s.length := by
  unfold numOf; split
  · exact Nat.le_refl _
  · split
    · exact Nat.le_refl _
    · simp
theorem hashOf_len (s : List UInt8) : (hashOf s).2.2.length ≤ s.length ∧ (hashOf s).1.length = 32 := by
  unfold hashOf; split
  · exact ⟨Nat.le_refl _, rfl⟩
  · simp; omega
theorem textOf_len (s : List UInt8) : (textOf s).2.2.length ≤ s.length := by
  cases s with
  | nil => exact Nat.le_refl _
  | cons c t =>
    rw [textOf_cons]; split
    · exact Nat.le_refl _
    · split
      · exact Nat.le_refl _
      · simp; omega
end Go.Proofs.Ytkgmjphdocmodaa.Octet
