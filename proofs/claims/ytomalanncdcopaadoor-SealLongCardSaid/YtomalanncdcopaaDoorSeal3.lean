/- The contracts of layer 3 and of its reference. -/
import Derived.Test.YtomalanncdcopaaDoorSeal2
import Derived.Test.YtomalanncdcopaaDoorDigR5
set_option linter.unusedSimpArgs false
set_option linter.unusedVariables false
namespace Go.Proofs.YtomalanncdcopaaDoor.Seal
open Go Go.RowKit Go.Proofs.YtomalanncdcopaaDoor.Mem Go.Proofs.YtomalanncdcopaaDoor.Dig Go.Proofs.YtomalanncdcopaaDoor.St

theorem fill_long (k : List UInt8) (h : 64 < k.length) : cellsOf (sha k) ++ cellsOf (List.replicate 32 0) = cellsOf (keyed k) := by
  rw [← cellsOf_append, keyed, if_pos h, fill, sha_length]
theorem fill_short (k : List UInt8) (h : ¬ 64 < k.length) : cellsOf k ++ cellsOf (List.replicate (64 - k.length) 0) = cellsOf (keyed k) := by
  rw [← cellsOf_append, keyed, if_neg h, fill]
theorem sealed_length (K : List UInt8) (b : UInt8) (s : List UInt8) : (sealed K b s).length = 32 := sha_length _
theorem fill_len (k : List UInt8) : (fill k).length = k.length + (64 - k.length) := by simp [fill]
attribute [simp] sealed_length fill_len
set_option maxHeartbeats 8000000 in
theorem tag_any (k s : List UInt8) (hk : k.length ≤ 1000000) (hl : s.length ≤ 1000000) (w : World) (hKT : KTab w) :
    Calls Tryd.prog 8 #[.string (bstr k), .string (bstr s)] w fun r w' => r = .returned (.agg (cellsOf (tag k s)).toArray) ∧ OnlyNew w w' := by
  refine calls_of_wp Tryd.func8 rfl ?_
  refine St.ent0 (⟨#[.string (bstr k), .string (bstr s), undef, undef, undef, undef, undef, undef, undef, undef, undef, undef, undef, undef, undef, undef, undef, undef, undef, undef, undef, undef, undef, undef, undef, undef, undef, undef], []⟩) (by kernel_rfl) ?_
  have HS1 : St w w [] [] := St.nil _ _
  refine wp_seq ?_
  refine St.rgn ?_
  refine St.sg rfl (St.g_alloc 24 rfl (cellsOf (List.replicate 32 0)) (by kernel_rfl) HS1) ?_
  rintro _ w3 ⟨b2, rfl, _, HS4⟩
  clear HS1
  refine St.fin (⟨#[.string (bstr k), .string (bstr s), undef, undef, .pointer (some ⟨b2, 0, none⟩), undef, undef, undef, undef, undef, undef, undef, undef, undef, undef, undef, undef, undef, undef, undef, undef, undef, undef, undef, undef, undef, undef, undef], []⟩) (by kernel_rfl) ?_
  refine St.then_n ?_
  refine wp_seq ?_
  refine St.rgn ?_
  refine St.sg rfl (St.g_alloc 34 rfl (cellsOf (List.replicate 64 0)) (by kernel_rfl) HS4) ?_
  rintro _ w6 ⟨b5, rfl, _, HS7⟩
  clear HS4
  refine St.fin (⟨#[.string (bstr k), .string (bstr s), undef, undef, .pointer (some ⟨b2, 0, none⟩), .pointer (some ⟨b5, 0, none⟩), undef, undef, undef, undef, undef, undef, undef, undef, undef, undef, undef, undef, undef, undef, undef, undef, undef, undef, undef, undef, undef, undef], []⟩) (by kernel_rfl) ?_
  refine St.then_n ?_
  refine wp_seq ?_
  refine wp_seq ?_
  refine St.rgn ?_
  refine St.sv (.string (bstr k)) rfl (by kernel_rfl) ?_
  refine St.sv (.int .i64 (k.length : Int)) rfl (St.e_len (l := k) 9 rfl Tryd.underlying9 (by kernel_rfl)) ?_
  refine St.sv (.bool (decide ((k.length : Int) > 64))) rfl (by kernel_rfl) ?_
  refine St.fin (⟨#[.string (bstr k), .string (bstr s), undef, undef, .pointer (some ⟨b2, 0, none⟩), .pointer (some ⟨b5, 0, none⟩), undef, undef, undef, .string (bstr k), .int .i64 (k.length : Int), .bool (decide ((k.length : Int) > 64)), undef, undef, undef, undef, undef, undef, undef, undef, undef, undef, undef, undef, undef, undef, undef, undef], []⟩) (by kernel_rfl) ?_
  refine St.then_n ?_
  refine wp_cond_split (t := decide ((k.length : Int) > 64)) rfl (fun hc8 => ?_) (fun hc8 => ?_)
  · skip
    have q9 := of_decide_eq_true hc8
    refine wp_seq ?_
    refine St.rgn ?_
    refine St.sv (.string (bstr k)) rfl (by kernel_rfl) ?_
    refine St.scall rfl (by kernel_rfl) (Dig.sha_any k (by first | omega | (simp; omega) | simp) w6 (hKT.keep HS7.chg (by simp))) ?_
    rintro _ w10 ⟨rfl, h11⟩; refine ⟨_, rfl, ?_⟩
    have HS12 := HS7.quiet h11
    clear HS7
    refine St.sg rfl (St.g_alloc 24 rfl (cellsOf (List.replicate 32 0)) (by kernel_rfl) HS12) ?_
    rintro _ w14 ⟨b13, rfl, _, HS15⟩
    clear HS12
    refine St.sg rfl (St.g_stores (i := 0) rfl (by kernel_rfl) (cellsOf (sha k)) (by kernel_rfl) (cellsOf_one _) 32 rfl HS15 0 rfl [] (cellsOf (List.replicate 32 0)) [] (by first | with_reducible rfl | simp only [List.append_assoc, List.cons_append, List.nil_append, List.append_nil]) (by first | omega | (simp; omega) | simp) (by first | omega | (simp; omega) | simp) (by first | omega | (simp; omega) | simp) (cellsOf (sha k)) (by first | with_reducible rfl | simp only [List.append_assoc, List.cons_append, List.nil_append, List.append_nil])) ?_
    rintro _ w16 ⟨rfl, HS17⟩
    replace HS17 : St w w16 [] [.row b13 (cellsOf (sha k)), .row b5 (cellsOf (List.replicate 64 0)), .row b2 (cellsOf (List.replicate 32 0))] := HS17
    clear HS15
    refine St.fin (⟨#[.string (bstr k), .string (bstr s), undef, undef, .pointer (some ⟨b2, 0, none⟩), .pointer (some ⟨b5, 0, none⟩), .pointer (some ⟨b13, 0, none⟩), undef, undef, .string (bstr k), .int .i64 (k.length : Int), .bool (decide ((k.length : Int) > 64)), .string (bstr k), .agg (cellsOf (sha k)).toArray, undef, undef, undef, undef, undef, undef, undef, undef, undef, undef, undef, undef, undef, undef], []⟩) (by kernel_rfl) ?_
    refine St.then_n ?_
    refine Lin2.region_lin [0, 0, 3] [] [2] (fun _ => True) (St.StK w [] [[.row b13 (cellsOf (sha k)), .row b5 (cellsOf (List.replicate 64 0)), .row b2 (cellsOf (List.replicate 32 0)), (.big w16.heap.size)], [.row b13 (cellsOf (sha k)), .row b5 ((cellsOf (sha k)) ++ (cellsOf (List.replicate 32 0))), .row b2 (cellsOf (List.replicate 32 0)), (.big w16.heap.size)]]) St.StK.quiet 28 (by kernel_rfl) rfl (by kernel_rfl) HS17.big.drew ?_
    refine Lin2.walk_pure (.slice (some ⟨b5, 0, none⟩) 64 64) (by kernel_rfl) (by kernel_rfl) (by kernel_rfl) (fun w1 => (by kernel_rfl)) ?_; intro S' hS'; subst hS'
    refine Lin2.walk_pure (.slice (some ⟨b13, 0, none⟩) 32 32) (by kernel_rfl) (by kernel_rfl) (by kernel_rfl) (fun w1 => (by kernel_rfl)) ?_; intro S' hS'; subst hS'
    refine St.walk_effS [] (.int .i64 32) 0 (by kernel_rfl) (by kernel_rfl) (by kernel_rfl) (by kernel_rfl) (fun _ => by kernel_rfl) (by intro f w1 _ _ hI; have HS : St w w1 [] [.row b13 (cellsOf (sha k)), .row b5 (cellsOf (List.replicate 64 0)), .row b2 (cellsOf (List.replicate 32 0)), (.big w16.heap.size)] := hI; exact St.gives.mono (St.g_cpr (off := 0) (dLen := 64) (dCap := 64) (sLen := 32) (sCap := 32) rfl Tryd.underlying27 rfl (by kernel_rfl) (by kernel_rfl) (HS.row 0 rfl) (by first | omega | (simp; omega) | simp) (by first | omega | (simp; omega) | simp) (cellsOf_one _) HS 1 rfl [] (cellsOf (List.replicate 32 0)) (cellsOf (List.replicate 32 0)) (by kernel_rfl) (by first | omega | (simp; omega) | simp) (by first | omega | (simp; omega) | simp) ((cellsOf (sha k)) ++ (cellsOf (List.replicate 32 0))) (by first | with_reducible rfl | simp only [List.append_assoc, List.cons_append, List.nil_append, List.append_nil])) (fun u w' h => ⟨h.1, St.chgT HS17 h.2 (i := 3) rfl, h.2, fun i hi => by cases hi⟩)) ?_; intro S' hS'; subst hS'
    refine Lin2.walk_end0 rfl ?_; intro w20 _ hI
    have HS21 : St w w20 [] [.row b13 (cellsOf (sha k)), .row b5 ((cellsOf (sha k)) ++ (cellsOf (List.replicate 32 0))), .row b2 (cellsOf (List.replicate 32 0))] := St.unbig (e := .big w16.heap.size) hI; clear hI HS17
    refine St.finQ (⟨#[.string (bstr k), .string (bstr s), undef, undef, .pointer (some ⟨b2, 0, none⟩), .pointer (some ⟨b5, 0, none⟩), .pointer (some ⟨b13, 0, none⟩), undef, undef, .string (bstr k), .int .i64 (k.length : Int), .bool (decide ((k.length : Int) > 64)), .string (bstr k), .agg (cellsOf (sha k)).toArray, .slice (some ⟨b5, 0, none⟩) 64 64, .slice (some ⟨b13, 0, none⟩) 32 32, .int .i64 32, undef, undef, undef, undef, undef, undef, undef, undef, undef, undef, undef], []⟩) (by kernel_rfl) ?_
    refine St.then_n ?_
    refine wp_seq ?_
    refine St.rgn ?_
    have HS22 : St w w20 [] [.row b13 (cellsOf (sha k)), .row b5 (cellsOf (keyed k)), .row b2 (cellsOf (List.replicate 32 0))] := St.reseg HS21 1 rfl (fill_long k (by omega))
    clear HS21
    refine St.sv (.func (.func 15) #[] #[.pointer (some ⟨b5, 0, none⟩)]) rfl (by kernel_rfl) ?_
    refine St.sv (.func (.func 15) #[] #[.pointer (some ⟨b5, 0, none⟩)]) rfl (by kernel_rfl) ?_
    refine St.fin (⟨#[.string (bstr k), .string (bstr s), undef, undef, .pointer (some ⟨b2, 0, none⟩), .pointer (some ⟨b5, 0, none⟩), .pointer (some ⟨b13, 0, none⟩), .func (.func 15) #[] #[.pointer (some ⟨b5, 0, none⟩)], undef, .string (bstr k), .int .i64 (k.length : Int), .bool (decide ((k.length : Int) > 64)), .string (bstr k), .agg (cellsOf (sha k)).toArray, .slice (some ⟨b5, 0, none⟩) 64 64, .slice (some ⟨b13, 0, none⟩) 32 32, .int .i64 32, undef, undef, undef, .func (.func 15) #[] #[.pointer (some ⟨b5, 0, none⟩)], undef, undef, undef, undef, undef, undef, undef], []⟩) (by kernel_rfl) ?_
    refine St.then_n ?_
    refine wp_seq ?_
    refine St.rgn ?_
    refine St.sv (.func (.func 15) #[] #[.pointer (some ⟨b5, 0, none⟩)]) rfl (by kernel_rfl) ?_
    refine St.sv (.string (bstr s)) rfl (by kernel_rfl) ?_
    refine St.scall rfl (by kernel_rfl) (Seal.sealed_any 54 s (keyed k) (keyed_length _) (by first | omega | (simp; omega) | simp) b5 w20 (HS22.row 1 rfl) (hKT.keep HS22.chg (by simp))) ?_
    rintro _ w23 ⟨rfl, h24⟩; refine ⟨_, rfl, ?_⟩
    have HS25 := HS22.quiet h24
    clear HS22
    refine St.sg rfl (St.g_alloc 24 rfl (cellsOf (List.replicate 32 0)) (by kernel_rfl) HS25) ?_
    rintro _ w27 ⟨b26, rfl, _, HS28⟩
    clear HS25
    refine St.sg rfl (St.g_stores (i := 0) rfl (by kernel_rfl) (cellsOf (sealed (keyed k) 54 s)) (by kernel_rfl) (cellsOf_one _) 32 rfl HS28 0 rfl [] (cellsOf (List.replicate 32 0)) [] (by first | with_reducible rfl | simp only [List.append_assoc, List.cons_append, List.nil_append, List.append_nil]) (by first | omega | (simp; omega) | simp) (by first | omega | (simp; omega) | simp) (by first | omega | (simp; omega) | simp) (cellsOf (sealed (keyed k) 54 s)) (by first | with_reducible rfl | simp only [List.append_assoc, List.cons_append, List.nil_append, List.append_nil])) ?_
    rintro _ w29 ⟨rfl, HS30⟩
    replace HS30 : St w w29 [] [.row b26 (cellsOf (sealed (keyed k) 54 s)), .row b13 (cellsOf (sha k)), .row b5 (cellsOf (keyed k)), .row b2 (cellsOf (List.replicate 32 0))] := HS30
    clear HS28
    refine St.fin (⟨#[.string (bstr k), .string (bstr s), undef, undef, .pointer (some ⟨b2, 0, none⟩), .pointer (some ⟨b5, 0, none⟩), .pointer (some ⟨b13, 0, none⟩), .func (.func 15) #[] #[.pointer (some ⟨b5, 0, none⟩)], .pointer (some ⟨b26, 0, none⟩), .string (bstr k), .int .i64 (k.length : Int), .bool (decide ((k.length : Int) > 64)), .string (bstr k), .agg (cellsOf (sha k)).toArray, .slice (some ⟨b5, 0, none⟩) 64 64, .slice (some ⟨b13, 0, none⟩) 32 32, .int .i64 32, undef, undef, undef, .func (.func 15) #[] #[.pointer (some ⟨b5, 0, none⟩)], .func (.func 15) #[] #[.pointer (some ⟨b5, 0, none⟩)], .string (bstr s), .agg (cellsOf (sealed (keyed k) 54 s)).toArray, undef, undef, undef, undef], []⟩) (by kernel_rfl) ?_
    refine St.then_n ?_
    refine wp_seq ?_
    refine St.rgn ?_
    refine St.sv (.func (.func 15) #[] #[.pointer (some ⟨b5, 0, none⟩)]) rfl (by kernel_rfl) ?_
    refine St.sv (.slice (some ⟨b26, 0, none⟩) 32 32) rfl (by kernel_rfl) ?_
    refine St.sv (.string (bstr (sealed (keyed k) 54 s))) rfl (St.e_bs (l := sealed (keyed k) 54 s) (n := 32) (cap := 32) rfl Tryd.underlying27 Tryd.underlying5 Tryd.underlying9 (by kernel_rfl) (HS30.row 0 rfl) (by first | omega | (simp; omega) | simp)) ?_
    refine St.scall rfl (by kernel_rfl) (Seal.sealed_any 92 (sealed (keyed k) 54 s) (keyed k) (keyed_length _) (by first | omega | (simp; omega) | simp) b5 w29 (HS30.row 2 rfl) (hKT.keep HS30.chg (by simp))) ?_
    rintro _ w31 ⟨rfl, h32⟩; refine ⟨_, rfl, ?_⟩
    have HS33 := HS30.quiet h32
    clear HS30
    refine St.sg rfl (St.g_stores (i := 0) rfl (by kernel_rfl) (cellsOf (sealed (keyed k) 92 (sealed (keyed k) 54 s))) (by kernel_rfl) (cellsOf_one _) 32 rfl HS33 3 rfl [] (cellsOf (List.replicate 32 0)) [] (by first | with_reducible rfl | simp only [List.append_assoc, List.cons_append, List.nil_append, List.append_nil]) (by first | omega | (simp; omega) | simp) (by first | omega | (simp; omega) | simp) (by first | omega | (simp; omega) | simp) (cellsOf (sealed (keyed k) 92 (sealed (keyed k) 54 s))) (by first | with_reducible rfl | simp only [List.append_assoc, List.cons_append, List.nil_append, List.append_nil])) ?_
    rintro _ w34 ⟨rfl, HS35⟩
    replace HS35 : St w w34 [] [.row b26 (cellsOf (sealed (keyed k) 54 s)), .row b13 (cellsOf (sha k)), .row b5 (cellsOf (keyed k)), .row b2 (cellsOf (sealed (keyed k) 92 (sealed (keyed k) 54 s)))] := HS35
    clear HS33
    refine St.fin (⟨#[.string (bstr k), .string (bstr s), undef, undef, .pointer (some ⟨b2, 0, none⟩), .pointer (some ⟨b5, 0, none⟩), .pointer (some ⟨b13, 0, none⟩), .func (.func 15) #[] #[.pointer (some ⟨b5, 0, none⟩)], .pointer (some ⟨b26, 0, none⟩), .string (bstr k), .int .i64 (k.length : Int), .bool (decide ((k.length : Int) > 64)), .string (bstr k), .agg (cellsOf (sha k)).toArray, .slice (some ⟨b5, 0, none⟩) 64 64, .slice (some ⟨b13, 0, none⟩) 32 32, .int .i64 32, undef, undef, undef, .func (.func 15) #[] #[.pointer (some ⟨b5, 0, none⟩)], .func (.func 15) #[] #[.pointer (some ⟨b5, 0, none⟩)], .string (bstr s), .agg (cellsOf (sealed (keyed k) 54 s)).toArray, .func (.func 15) #[] #[.pointer (some ⟨b5, 0, none⟩)], .slice (some ⟨b26, 0, none⟩) 32 32, .string (bstr (sealed (keyed k) 54 s)), .agg (cellsOf (sealed (keyed k) 92 (sealed (keyed k) 54 s))).toArray], []⟩) (by kernel_rfl) ?_
    refine St.then_n ?_
    refine wp_ret ?_
    refine bodyPost_ret (v := .agg (cellsOf (sealed (keyed k) 92 (sealed (keyed k) 54 s))).toArray) (St.resc rfl _ (by kernel_rfl) _ Tryd.underlying24 rfl 32 rfl (HS35.row 3 rfl) (by first | omega | (simp; omega) | simp)) rfl ?_
    -- end 0: [.row b26 (cellsOf (sealed (keyed k) 54 s)), .row b13 (cellsOf (sha k)), .row b5 (cellsOf (keyed k)), .row b2 (cellsOf (sealed (keyed k) 92 (sealed (keyed k) 54 s)))]
    exact ⟨rfl, HS35.only⟩
  · skip
    have q36 := of_decide_eq_false hc8
    refine St.rgn ?_
    refine St.sv (.slice (some ⟨b5, 0, none⟩) 64 64) rfl (by kernel_rfl) ?_
    refine St.sv (.string (bstr k)) rfl (by kernel_rfl) ?_
    refine St.sg rfl (St.g_cps (off := 0) (dLen := 64) (dCap := 64) rfl Tryd.underlying27 rfl (by kernel_rfl) (l := k) (by kernel_rfl) (by first | omega | (simp; omega) | simp) HS7 0 rfl ([]) (cellsOf (List.replicate k.length 0)) (cellsOf (List.replicate (64 - k.length) 0)) (by rw [List.nil_append, ← cellsOf_append, List.replicate_append_replicate, show k.length + (64 - k.length) = 64 by omega]) (by first | omega | (simp; omega) | simp) (by first | omega | (simp; omega) | simp) (cellsOf (keyed k)) (fill_short k (by omega))) ?_
    rintro _ w37 ⟨rfl, HS38⟩
    replace HS38 : St w w37 [] [.row b5 (cellsOf (keyed k)), .row b2 (cellsOf (List.replicate 32 0))] := HS38
    clear HS7
    refine St.fin (⟨#[.string (bstr k), .string (bstr s), undef, undef, .pointer (some ⟨b2, 0, none⟩), .pointer (some ⟨b5, 0, none⟩), undef, undef, undef, .string (bstr k), .int .i64 (k.length : Int), .bool (decide ((k.length : Int) > 64)), undef, undef, undef, undef, undef, .slice (some ⟨b5, 0, none⟩) 64 64, .string (bstr k), .int .i64 (k.length : Int), undef, undef, undef, undef, undef, undef, undef, undef], []⟩) (by kernel_rfl) ?_
    refine St.then_n ?_
    refine wp_seq ?_
    refine St.rgn ?_
    refine St.sv (.func (.func 15) #[] #[.pointer (some ⟨b5, 0, none⟩)]) rfl (by kernel_rfl) ?_
    refine St.sv (.func (.func 15) #[] #[.pointer (some ⟨b5, 0, none⟩)]) rfl (by kernel_rfl) ?_
    refine St.fin (⟨#[.string (bstr k), .string (bstr s), undef, undef, .pointer (some ⟨b2, 0, none⟩), .pointer (some ⟨b5, 0, none⟩), undef, .func (.func 15) #[] #[.pointer (some ⟨b5, 0, none⟩)], undef, .string (bstr k), .int .i64 (k.length : Int), .bool (decide ((k.length : Int) > 64)), undef, undef, undef, undef, undef, .slice (some ⟨b5, 0, none⟩) 64 64, .string (bstr k), .int .i64 (k.length : Int), .func (.func 15) #[] #[.pointer (some ⟨b5, 0, none⟩)], undef, undef, undef, undef, undef, undef, undef], []⟩) (by kernel_rfl) ?_
    refine St.then_n ?_
    refine wp_seq ?_
    refine St.rgn ?_
    refine St.sv (.func (.func 15) #[] #[.pointer (some ⟨b5, 0, none⟩)]) rfl (by kernel_rfl) ?_
    refine St.sv (.string (bstr s)) rfl (by kernel_rfl) ?_
    refine St.scall rfl (by kernel_rfl) (Seal.sealed_any 54 s (keyed k) (keyed_length _) (by first | omega | (simp; omega) | simp) b5 w37 (HS38.row 0 rfl) (hKT.keep HS38.chg (by simp))) ?_
    rintro _ w39 ⟨rfl, h40⟩; refine ⟨_, rfl, ?_⟩
    have HS41 := HS38.quiet h40
    clear HS38
    refine St.sg rfl (St.g_alloc 24 rfl (cellsOf (List.replicate 32 0)) (by kernel_rfl) HS41) ?_
    rintro _ w43 ⟨b42, rfl, _, HS44⟩
    clear HS41
    refine St.sg rfl (St.g_stores (i := 0) rfl (by kernel_rfl) (cellsOf (sealed (keyed k) 54 s)) (by kernel_rfl) (cellsOf_one _) 32 rfl HS44 0 rfl [] (cellsOf (List.replicate 32 0)) [] (by first | with_reducible rfl | simp only [List.append_assoc, List.cons_append, List.nil_append, List.append_nil]) (by first | omega | (simp; omega) | simp) (by first | omega | (simp; omega) | simp) (by first | omega | (simp; omega) | simp) (cellsOf (sealed (keyed k) 54 s)) (by first | with_reducible rfl | simp only [List.append_assoc, List.cons_append, List.nil_append, List.append_nil])) ?_
    rintro _ w45 ⟨rfl, HS46⟩
    replace HS46 : St w w45 [] [.row b42 (cellsOf (sealed (keyed k) 54 s)), .row b5 (cellsOf (keyed k)), .row b2 (cellsOf (List.replicate 32 0))] := HS46
    clear HS44
    refine St.fin (⟨#[.string (bstr k), .string (bstr s), undef, undef, .pointer (some ⟨b2, 0, none⟩), .pointer (some ⟨b5, 0, none⟩), undef, .func (.func 15) #[] #[.pointer (some ⟨b5, 0, none⟩)], .pointer (some ⟨b42, 0, none⟩), .string (bstr k), .int .i64 (k.length : Int), .bool (decide ((k.length : Int) > 64)), undef, undef, undef, undef, undef, .slice (some ⟨b5, 0, none⟩) 64 64, .string (bstr k), .int .i64 (k.length : Int), .func (.func 15) #[] #[.pointer (some ⟨b5, 0, none⟩)], .func (.func 15) #[] #[.pointer (some ⟨b5, 0, none⟩)], .string (bstr s), .agg (cellsOf (sealed (keyed k) 54 s)).toArray, undef, undef, undef, undef], []⟩) (by kernel_rfl) ?_
    refine St.then_n ?_
    refine wp_seq ?_
    refine St.rgn ?_
    refine St.sv (.func (.func 15) #[] #[.pointer (some ⟨b5, 0, none⟩)]) rfl (by kernel_rfl) ?_
    refine St.sv (.slice (some ⟨b42, 0, none⟩) 32 32) rfl (by kernel_rfl) ?_
    refine St.sv (.string (bstr (sealed (keyed k) 54 s))) rfl (St.e_bs (l := sealed (keyed k) 54 s) (n := 32) (cap := 32) rfl Tryd.underlying27 Tryd.underlying5 Tryd.underlying9 (by kernel_rfl) (HS46.row 0 rfl) (by first | omega | (simp; omega) | simp)) ?_
    refine St.scall rfl (by kernel_rfl) (Seal.sealed_any 92 (sealed (keyed k) 54 s) (keyed k) (keyed_length _) (by first | omega | (simp; omega) | simp) b5 w45 (HS46.row 1 rfl) (hKT.keep HS46.chg (by simp))) ?_
    rintro _ w47 ⟨rfl, h48⟩; refine ⟨_, rfl, ?_⟩
    have HS49 := HS46.quiet h48
    clear HS46
    refine St.sg rfl (St.g_stores (i := 0) rfl (by kernel_rfl) (cellsOf (sealed (keyed k) 92 (sealed (keyed k) 54 s))) (by kernel_rfl) (cellsOf_one _) 32 rfl HS49 2 rfl [] (cellsOf (List.replicate 32 0)) [] (by first | with_reducible rfl | simp only [List.append_assoc, List.cons_append, List.nil_append, List.append_nil]) (by first | omega | (simp; omega) | simp) (by first | omega | (simp; omega) | simp) (by first | omega | (simp; omega) | simp) (cellsOf (sealed (keyed k) 92 (sealed (keyed k) 54 s))) (by first | with_reducible rfl | simp only [List.append_assoc, List.cons_append, List.nil_append, List.append_nil])) ?_
    rintro _ w50 ⟨rfl, HS51⟩
    replace HS51 : St w w50 [] [.row b42 (cellsOf (sealed (keyed k) 54 s)), .row b5 (cellsOf (keyed k)), .row b2 (cellsOf (sealed (keyed k) 92 (sealed (keyed k) 54 s)))] := HS51
    clear HS49
    refine St.fin (⟨#[.string (bstr k), .string (bstr s), undef, undef, .pointer (some ⟨b2, 0, none⟩), .pointer (some ⟨b5, 0, none⟩), undef, .func (.func 15) #[] #[.pointer (some ⟨b5, 0, none⟩)], .pointer (some ⟨b42, 0, none⟩), .string (bstr k), .int .i64 (k.length : Int), .bool (decide ((k.length : Int) > 64)), undef, undef, undef, undef, undef, .slice (some ⟨b5, 0, none⟩) 64 64, .string (bstr k), .int .i64 (k.length : Int), .func (.func 15) #[] #[.pointer (some ⟨b5, 0, none⟩)], .func (.func 15) #[] #[.pointer (some ⟨b5, 0, none⟩)], .string (bstr s), .agg (cellsOf (sealed (keyed k) 54 s)).toArray, .func (.func 15) #[] #[.pointer (some ⟨b5, 0, none⟩)], .slice (some ⟨b42, 0, none⟩) 32 32, .string (bstr (sealed (keyed k) 54 s)), .agg (cellsOf (sealed (keyed k) 92 (sealed (keyed k) 54 s))).toArray], []⟩) (by kernel_rfl) ?_
    refine St.then_n ?_
    refine wp_ret ?_
    refine bodyPost_ret (v := .agg (cellsOf (sealed (keyed k) 92 (sealed (keyed k) 54 s))).toArray) (St.resc rfl _ (by kernel_rfl) _ Tryd.underlying24 rfl 32 rfl (HS51.row 2 rfl) (by first | omega | (simp; omega) | simp)) rfl ?_
    -- end 1: [.row b42 (cellsOf (sealed (keyed k) 54 s)), .row b5 (cellsOf (keyed k)), .row b2 (cellsOf (sealed (keyed k) 92 (sealed (keyed k) 54 s)))]
    exact ⟨rfl, HS51.only⟩
set_option maxHeartbeats 8000000 in
theorem right_any (k s : List UInt8) (t : List UInt8) (ht : t.length = 32) (hk : k.length ≤ 1000000) (hl : s.length ≤ 1000000) (w : World) (hKT : KTab w) :
    Calls Tryd.prog 13 #[.string (bstr k), .string (bstr s), .agg (cellsOf t).toArray] w fun r w' => r = .returned (.bool (tag k s == t)) ∧ OnlyNew w w' := by
  refine calls_of_wp Tryd.func13 rfl ?_
  refine St.ent0 (⟨#[.string (bstr k), .string (bstr s), .agg (cellsOf t).toArray, undef, undef, undef, undef, undef, undef, undef, undef, undef], []⟩) (by kernel_rfl) ?_
  have HS1 : St w w [] [] := St.nil _ _
  refine wp_seq ?_
  refine St.rgn ?_
  refine St.sg rfl (St.g_box 24 _ (.agg (cellsOf t).toArray) rfl (by kernel_rfl) (cellsOf t) (by kernel_rfl) HS1) ?_
  rintro _ w3 ⟨b2, rfl, _, HS4⟩
  clear HS1
  refine St.sv (.bool false) rfl (by kernel_rfl) ?_
  refine St.fin (⟨#[.string (bstr k), .string (bstr s), .agg (cellsOf t).toArray, undef, undef, .pointer (some ⟨b2, 0, none⟩), .bool false, undef, undef, undef, undef, undef], []⟩) (by kernel_rfl) ?_
  refine St.then_n ?_
  refine wp_seq ?_
  refine Lin2.region_lin [0, 0, 3, 0, 15, 31] [] [] (fun _ => True) (St.StK w [] [[.row b2 (cellsOf t), (.big w3.heap.size)]]) St.StK.quiet 12 (by kernel_rfl) rfl (by kernel_rfl) HS4.big.drew ?_
  refine Lin2.walk_pure (.string (bstr k)) (by kernel_rfl) (by kernel_rfl) (by kernel_rfl) (fun w1 => (by kernel_rfl)) ?_; intro S' hS'; subst hS'
  refine Lin2.walk_pure (.string (bstr s)) (by kernel_rfl) (by kernel_rfl) (by kernel_rfl) (fun w1 => (by kernel_rfl)) ?_; intro S' hS'; subst hS'
  refine St.walk_callS [] (.agg (cellsOf (tag k s)).toArray) 0 0 (by kernel_rfl) (by kernel_rfl) (by kernel_rfl) (by kernel_rfl) (fun _ => by kernel_rfl) (by intro f w1 k1 hF _ h1 h2 hI; obtain rfl : k1 = 0 := (by omega); have HS : St w w1 [] [.row b2 (cellsOf t), (.big w3.heap.size)] := hI; refine St.g_call (by kernel_rfl) (Seal.tag_any k s (by first | omega | (simp [ht]; omega) | simp [ht]) (by first | omega | (simp [ht]; omega) | simp [ht]) w1 (hKT.keep HS.chg (by simp))) ?_; rintro _ w7 ⟨rfl, h8⟩; exact ⟨_, rfl, rfl, h8⟩) ?_; intro S' hS'; subst hS'
  refine Lin2.walk_read (.agg (cellsOf t).toArray) 0 0 (by kernel_rfl) (by kernel_rfl) (by kernel_rfl) (by kernel_rfl) (by kernel_rfl) (by intro w1 k1 _ h1 h2 hI; obtain rfl : k1 = 0 := (by omega); have HS : St w w1 [] [.row b2 (cellsOf t), (.big w3.heap.size)] := hI; exact (St.e_loads (i := 0) rfl (by kernel_rfl) _ Tryd.underlying24 rfl 32 rfl (HS.row 0 rfl) [] (cellsOf t) [] (by first | with_reducible rfl | simp only [List.append_assoc, List.cons_append, List.nil_append, List.append_nil]) (by first | omega | (simp [ht]; omega) | simp [ht]) (by first | omega | (simp [ht]; omega) | simp [ht]))) ?_; intro S' hS'; subst hS'
  refine Lin2.walk_pure (.bool ((tag k s) == t)) (by kernel_rfl) (by kernel_rfl) (by kernel_rfl) (fun w1 => (St.e_aeq (l := tag k s) (m := t) rfl Tryd.underlying24 Tryd.underlying5 (fun _ => rfl) (by kernel_rfl) (by kernel_rfl) (by kernel_rfl) (by first | omega | (simp [ht]; omega) | simp [ht]) (by first | omega | (simp [ht]; omega) | simp [ht]))) ?_; intro S' hS'; subst hS'
  refine Lin2.walk_pure (.bool ((tag k s) == t)) (by kernel_rfl) (by kernel_rfl) (by kernel_rfl) (fun w1 => (by kernel_rfl)) ?_; intro S' hS'; subst hS'
  refine Lin2.walk_end0 rfl ?_; intro w10 _ hI
  have HS11 : St w w10 [] [.row b2 (cellsOf t)] := St.unbig (e := .big w3.heap.size) hI; clear hI HS4
  refine St.finQ (⟨#[.string (bstr k), .string (bstr s), .agg (cellsOf t).toArray, undef, undef, .pointer (some ⟨b2, 0, none⟩), .bool ((tag k s) == t), .string (bstr k), .string (bstr s), .agg (cellsOf (tag k s)).toArray, .agg (cellsOf t).toArray, .bool ((tag k s) == t)], []⟩) (by kernel_rfl) ?_
  refine St.then_n ?_
  refine wp_ret ?_
  refine bodyPost_ret (v := .bool ((tag k s) == t)) (by kernel_rfl) rfl ?_
  -- end 0: [.row b2 (cellsOf t)]
  exact ⟨rfl, HS11.only⟩
set_option maxHeartbeats 8000000 in
theorem of_any (p : List UInt8) (hp : p.length = 32) (w : World) (hKT : KTab w) :
    Calls Tryd.prog 10 #[.agg (cellsOf p).toArray] w fun r w' => r = .returned (.agg (cellsOf (sha p)).toArray) ∧ OnlyNew w w' := by
  refine calls_of_wp Tryd.func10 rfl ?_
  refine St.ent0 (⟨#[.agg (cellsOf p).toArray, undef, undef, undef, undef, undef], []⟩) (by kernel_rfl) ?_
  have HS1 : St w w [] [] := St.nil _ _
  refine wp_seq ?_
  refine St.rgn ?_
  refine St.sg rfl (St.g_box 24 _ (.agg (cellsOf p).toArray) rfl (by kernel_rfl) (cellsOf p) (by kernel_rfl) HS1) ?_
  rintro _ w3 ⟨b2, rfl, _, HS4⟩
  clear HS1
  refine St.sg rfl (St.g_alloc 24 rfl (cellsOf (List.replicate 32 0)) (by kernel_rfl) HS4) ?_
  rintro _ w6 ⟨b5, rfl, _, HS7⟩
  clear HS4
  refine St.fin (⟨#[.agg (cellsOf p).toArray, .pointer (some ⟨b2, 0, none⟩), .pointer (some ⟨b5, 0, none⟩), undef, undef, undef], []⟩) (by kernel_rfl) ?_
  refine St.then_n ?_
  refine wp_seq ?_
  refine St.rgn ?_
  refine St.sv (.slice (some ⟨b2, 0, none⟩) 32 32) rfl (by kernel_rfl) ?_
  refine St.sv (.string (bstr p)) rfl (St.e_bs (l := p) (n := 32) (cap := 32) rfl Tryd.underlying27 Tryd.underlying5 Tryd.underlying9 (by kernel_rfl) (HS7.row 1 rfl) (by first | omega | (simp [hp]; omega) | simp [hp])) ?_
  refine St.scall rfl (by kernel_rfl) (Dig.sha_any p (by first | omega | (simp [hp]; omega) | simp [hp]) w6 (hKT.keep HS7.chg (by simp))) ?_
  rintro _ w8 ⟨rfl, h9⟩; refine ⟨_, rfl, ?_⟩
  have HS10 := HS7.quiet h9
  clear HS7
  refine St.sg rfl (St.g_stores (i := 0) rfl (by kernel_rfl) (cellsOf (sha p)) (by kernel_rfl) (cellsOf_one _) 32 rfl HS10 0 rfl [] (cellsOf (List.replicate 32 0)) [] (by first | with_reducible rfl | simp only [List.append_assoc, List.cons_append, List.nil_append, List.append_nil]) (by first | omega | (simp [hp]; omega) | simp [hp]) (by first | omega | (simp [hp]; omega) | simp [hp]) (by first | omega | (simp [hp]; omega) | simp [hp]) (cellsOf (sha p)) (by first | with_reducible rfl | simp only [List.append_assoc, List.cons_append, List.nil_append, List.append_nil])) ?_
  rintro _ w11 ⟨rfl, HS12⟩
  replace HS12 : St w w11 [] [.row b5 (cellsOf (sha p)), .row b2 (cellsOf p)] := HS12
  clear HS10
  refine St.fin (⟨#[.agg (cellsOf p).toArray, .pointer (some ⟨b2, 0, none⟩), .pointer (some ⟨b5, 0, none⟩), .slice (some ⟨b2, 0, none⟩) 32 32, .string (bstr p), .agg (cellsOf (sha p)).toArray], []⟩) (by kernel_rfl) ?_
  refine St.then_n ?_
  refine wp_ret ?_
  refine bodyPost_ret (v := .agg (cellsOf (sha p)).toArray) (St.resc rfl _ (by kernel_rfl) _ Tryd.underlying24 rfl 32 rfl (HS12.row 0 rfl) (by first | omega | (simp [hp]; omega) | simp [hp])) rfl ?_
  -- end 0: [.row b5 (cellsOf (sha p)), .row b2 (cellsOf p)]
  exact ⟨rfl, HS12.only⟩
set_option maxHeartbeats 8000000 in
theorem opens_any (p h : List UInt8) (hp : p.length = 32) (hh : h.length = 32) (w : World) (hKT : KTab w) :
    Calls Tryd.prog 14 #[.agg (cellsOf p).toArray, .agg (cellsOf h).toArray] w fun r w' => r = .returned (.bool (sha p == h)) ∧ OnlyNew w w' := by
  refine calls_of_wp Tryd.func14 rfl ?_
  refine St.ent0 (⟨#[.agg (cellsOf p).toArray, .agg (cellsOf h).toArray, undef, undef, undef, undef, undef, undef, undef], []⟩) (by kernel_rfl) ?_
  have HS1 : St w w [] [] := St.nil _ _
  refine wp_seq ?_
  refine St.rgn ?_
  refine St.sg rfl (St.g_box 24 _ (.agg (cellsOf p).toArray) rfl (by kernel_rfl) (cellsOf p) (by kernel_rfl) HS1) ?_
  rintro _ w3 ⟨b2, rfl, _, HS4⟩
  clear HS1
  refine St.sg rfl (St.g_box 24 _ (.agg (cellsOf h).toArray) rfl (by kernel_rfl) (cellsOf h) (by kernel_rfl) HS4) ?_
  rintro _ w6 ⟨b5, rfl, _, HS7⟩
  clear HS4
  refine St.sv (.bool false) rfl (by kernel_rfl) ?_
  refine St.fin (⟨#[.agg (cellsOf p).toArray, .agg (cellsOf h).toArray, .pointer (some ⟨b2, 0, none⟩), .pointer (some ⟨b5, 0, none⟩), .bool false, undef, undef, undef, undef], []⟩) (by kernel_rfl) ?_
  refine St.then_n ?_
  refine wp_seq ?_
  refine Lin2.region_lin [0, 1, 0, 7, 15] [] [] (fun _ => True) (St.StK w [] [[.row b5 (cellsOf h), .row b2 (cellsOf p), (.big w6.heap.size)]]) St.StK.quiet 9 (by kernel_rfl) rfl (by kernel_rfl) HS7.big.drew ?_
  refine Lin2.walk_read (.agg (cellsOf p).toArray) 0 0 (by kernel_rfl) (by kernel_rfl) (by kernel_rfl) (by kernel_rfl) (by kernel_rfl) (by intro w1 k1 _ h1 h2 hI; obtain rfl : k1 = 0 := (by omega); have HS : St w w1 [] [.row b5 (cellsOf h), .row b2 (cellsOf p), (.big w6.heap.size)] := hI; exact (St.e_loads (i := 0) rfl (by kernel_rfl) _ Tryd.underlying24 rfl 32 rfl (HS.row 1 rfl) [] (cellsOf p) [] (by first | with_reducible rfl | simp only [List.append_assoc, List.cons_append, List.nil_append, List.append_nil]) (by first | omega | (simp [hp, hh]; omega) | simp [hp, hh]) (by first | omega | (simp [hp, hh]; omega) | simp [hp, hh]))) ?_; intro S' hS'; subst hS'
  refine St.walk_callS [] (.agg (cellsOf (sha p)).toArray) 0 0 (by kernel_rfl) (by kernel_rfl) (by kernel_rfl) (by kernel_rfl) (fun _ => by kernel_rfl) (by intro f w1 k1 hF _ h1 h2 hI; obtain rfl : k1 = 0 := (by omega); have HS : St w w1 [] [.row b5 (cellsOf h), .row b2 (cellsOf p), (.big w6.heap.size)] := hI; refine St.g_call (by kernel_rfl) (Seal.of_any p (by first | omega | (simp [hp, hh]; omega) | simp [hp, hh]) w1 (hKT.keep HS.chg (by simp))) ?_; rintro _ w10 ⟨rfl, h11⟩; exact ⟨_, rfl, rfl, h11⟩) ?_; intro S' hS'; subst hS'
  refine Lin2.walk_read (.agg (cellsOf h).toArray) 0 0 (by kernel_rfl) (by kernel_rfl) (by kernel_rfl) (by kernel_rfl) (by kernel_rfl) (by intro w1 k1 _ h1 h2 hI; obtain rfl : k1 = 0 := (by omega); have HS : St w w1 [] [.row b5 (cellsOf h), .row b2 (cellsOf p), (.big w6.heap.size)] := hI; exact (St.e_loads (i := 0) rfl (by kernel_rfl) _ Tryd.underlying24 rfl 32 rfl (HS.row 0 rfl) [] (cellsOf h) [] (by first | with_reducible rfl | simp only [List.append_assoc, List.cons_append, List.nil_append, List.append_nil]) (by first | omega | (simp [hp, hh]; omega) | simp [hp, hh]) (by first | omega | (simp [hp, hh]; omega) | simp [hp, hh]))) ?_; intro S' hS'; subst hS'
  refine Lin2.walk_pure (.bool ((sha p) == h)) (by kernel_rfl) (by kernel_rfl) (by kernel_rfl) (fun w1 => (St.e_aeq (l := sha p) (m := h) rfl Tryd.underlying24 Tryd.underlying5 (fun _ => rfl) (by kernel_rfl) (by kernel_rfl) (by kernel_rfl) (by first | omega | (simp [hp, hh]; omega) | simp [hp, hh]) (by first | omega | (simp [hp, hh]; omega) | simp [hp, hh]))) ?_; intro S' hS'; subst hS'
  refine Lin2.walk_pure (.bool ((sha p) == h)) (by kernel_rfl) (by kernel_rfl) (by kernel_rfl) (fun w1 => (by kernel_rfl)) ?_; intro S' hS'; subst hS'
  refine Lin2.walk_end0 rfl ?_; intro w13 _ hI
  have HS14 : St w w13 [] [.row b5 (cellsOf h), .row b2 (cellsOf p)] := St.unbig (e := .big w6.heap.size) hI; clear hI HS7
  refine St.finQ (⟨#[.agg (cellsOf p).toArray, .agg (cellsOf h).toArray, .pointer (some ⟨b2, 0, none⟩), .pointer (some ⟨b5, 0, none⟩), .bool ((sha p) == h), .agg (cellsOf p).toArray, .agg (cellsOf (sha p)).toArray, .agg (cellsOf h).toArray, .bool ((sha p) == h)], []⟩) (by kernel_rfl) ?_
  refine St.then_n ?_
  refine wp_ret ?_
  refine bodyPost_ret (v := .bool ((sha p) == h)) (by kernel_rfl) rfl ?_
  -- end 0: [.row b5 (cellsOf h), .row b2 (cellsOf p)]
  exact ⟨rfl, HS14.only⟩
set_option maxHeartbeats 8000000 in
theorem refof_any (p : List UInt8) (hp : p.length = 32) (w : World) :
    Calls Tryd.prog 12 #[.agg (cellsOf p).toArray] w fun r w' => r = .returned (.agg (cellsOf (sha p)).toArray) ∧ OnlyNew w w' := by
  refine calls_of_wp Tryd.func12 rfl ?_
  refine St.ent0 (⟨#[.agg (cellsOf p).toArray, undef, undef, undef, undef, undef], []⟩) (by kernel_rfl) ?_
  have HS1 : St w w [] [] := St.nil _ _
  refine wp_seq ?_
  refine St.rgn ?_
  refine St.sg rfl (St.g_box 24 _ (.agg (cellsOf p).toArray) rfl (by kernel_rfl) (cellsOf p) (by kernel_rfl) HS1) ?_
  rintro _ w3 ⟨b2, rfl, _, HS4⟩
  clear HS1
  refine St.sg rfl (St.g_alloc 24 rfl (cellsOf (List.replicate 32 0)) (by kernel_rfl) HS4) ?_
  rintro _ w6 ⟨b5, rfl, _, HS7⟩
  clear HS4
  refine St.fin (⟨#[.agg (cellsOf p).toArray, .pointer (some ⟨b2, 0, none⟩), .pointer (some ⟨b5, 0, none⟩), undef, undef, undef], []⟩) (by kernel_rfl) ?_
  refine St.then_n ?_
  refine wp_seq ?_
  refine St.rgn ?_
  refine St.sv (.slice (some ⟨b2, 0, none⟩) 32 32) rfl (by kernel_rfl) ?_
  refine St.sv (.string (bstr p)) rfl (St.e_bs (l := p) (n := 32) (cap := 32) rfl Tryd.underlying27 Tryd.underlying5 Tryd.underlying9 (by kernel_rfl) (HS7.row 1 rfl) (by first | omega | (simp [hp]; omega) | simp [hp])) ?_
  refine St.scall rfl (by kernel_rfl) (Dig.refsha_any p (by first | omega | (simp [hp]; omega) | simp [hp]) w6) ?_
  rintro _ w8 ⟨rfl, h9⟩; refine ⟨_, rfl, ?_⟩
  have HS10 := HS7.quiet h9
  clear HS7
  refine St.sg rfl (St.g_stores (i := 0) rfl (by kernel_rfl) (cellsOf (sha p)) (by kernel_rfl) (cellsOf_one _) 32 rfl HS10 0 rfl [] (cellsOf (List.replicate 32 0)) [] (by first | with_reducible rfl | simp only [List.append_assoc, List.cons_append, List.nil_append, List.append_nil]) (by first | omega | (simp [hp]; omega) | simp [hp]) (by first | omega | (simp [hp]; omega) | simp [hp]) (by first | omega | (simp [hp]; omega) | simp [hp]) (cellsOf (sha p)) (by first | with_reducible rfl | simp only [List.append_assoc, List.cons_append, List.nil_append, List.append_nil])) ?_
  rintro _ w11 ⟨rfl, HS12⟩
  replace HS12 : St w w11 [] [.row b5 (cellsOf (sha p)), .row b2 (cellsOf p)] := HS12
  clear HS10
  refine St.fin (⟨#[.agg (cellsOf p).toArray, .pointer (some ⟨b2, 0, none⟩), .pointer (some ⟨b5, 0, none⟩), .slice (some ⟨b2, 0, none⟩) 32 32, .string (bstr p), .agg (cellsOf (sha p)).toArray], []⟩) (by kernel_rfl) ?_
  refine St.then_n ?_
  refine wp_ret ?_
  refine bodyPost_ret (v := .agg (cellsOf (sha p)).toArray) (St.resc rfl _ (by kernel_rfl) _ Tryd.underlying24 rfl 32 rfl (HS12.row 0 rfl) (by first | omega | (simp [hp]; omega) | simp [hp])) rfl ?_
  -- end 0: [.row b5 (cellsOf (sha p)), .row b2 (cellsOf p)]
  exact ⟨rfl, HS12.only⟩
/-- The bytes mixed so far. -/
def mx (k : List UInt8) (b : UInt8) (i : Nat) : List UInt8 := (mix (fill k) b).take i
theorem mx_length (k : List UInt8) (b : UInt8) (i : Nat) (hk : k.length ≤ 64) (hi : i ≤ 64) : (mx k b i).length = i := by rw [mx, List.length_take, mix_length, fill_length k hk]; omega
theorem mx_len (k : List UInt8) (b : UInt8) (i : Nat) : (mx k b i).length = min i (k.length + (64 - k.length)) := by rw [mx, List.length_take, mix_length, fill_len]
attribute [simp] mx_len
theorem mixes_eq (k s : List UInt8) (h : k.length ≤ 64) : tag k s = sha (mx k 92 64 ++ sha (mx k 54 64 ++ s)) := by
  have e : ∀ b, mx k b 64 = mix (fill k) b := fun b => by rw [mx, List.take_of_length_le (by rw [mix_length, fill_length k h]; omega)]
  rw [e, e, tag, keyed, if_neg (by omega)]
  rfl
theorem mx_next (k : List UInt8) (b : UInt8) (i : Nat) (hk : k.length ≤ 64) (hi : i < 64) (c : UInt8) (hc : (fill k).getD i 0 = c) : mx k b i ++ [c ^^^ b] = mx k b (i + 1) := by
  have h1 : i < (mix (fill k) b).length := by rw [mix_length, fill_length k hk]; exact hi
  have h2 : i < (fill k).length := by rw [fill_length k hk]; exact hi
  rw [mx, mx, List.take_succ_eq_append_getElem h1]
  congr 2
  simp only [mix, List.getElem_map]
  rw [← hc, List.getD_eq_getElem?_getD, List.getElem?_eq_getElem h2]
  rfl
theorem fill_in (k : List UInt8) (i : Nat) (h : i < k.length) : (fill k).getD i 0 = k.getD i 0 := by
  unfold fill; rw [List.getD_eq_getElem?_getD, List.getElem?_append_left h, ← List.getD_eq_getElem?_getD]
theorem fill_out (k : List UInt8) (i : Nat) (h : ¬ i < k.length) : (fill k).getD i 0 = 0 := by
  unfold fill; rw [List.getD_eq_getElem?_getD, List.getElem?_append_right (by omega), List.getElem?_replicate]
  split <;> rfl
theorem mx_zero (k : List UInt8) (b : UInt8) (i : Nat) (hk : k.length ≤ 64) (hi : i < 64) (h : ¬ i < k.length) : mx k b i ++ [b] = mx k b (i + 1) := by
  rw [← mx_next k b i hk hi 0 (fill_out k i h), UInt8.zero_xor]
set_option maxHeartbeats 8000000 in
theorem mixed_any (k : List UInt8) (b : UInt8) (hk : k.length ≤ 64) (w : World) :
    Calls Tryd.prog 19 #[.string (bstr k), .int .u8 (b.toNat : Int)] w fun r w' => r = .returned (.string (bstr (mix (fill k) b))) ∧ OnlyNew w w' := by
  refine calls_of_wp Tryd.func19 rfl ?_
  refine St.ent0 (⟨#[.string (bstr k), .int .u8 (b.toNat : Int), undef, undef, undef, undef, undef, undef, undef, undef, undef, undef, undef, undef, undef, undef, undef, undef, undef, undef, undef, undef, undef, undef, undef, undef, undef, undef], []⟩) (by kernel_rfl) ?_
  have HS1 : St w w [] [] := St.nil _ _
  refine wp_seq ?_
  refine St.rgn ?_
  refine St.sv (.string (bstr [])) rfl (by kernel_rfl) ?_
  refine St.fin (⟨#[.string (bstr k), .int .u8 (b.toNat : Int), undef, undef, .string (bstr []), undef, undef, undef, undef, undef, undef, undef, undef, undef, undef, undef, undef, undef, undef, undef, undef, undef, undef, undef, undef, undef, undef, undef], []⟩) (by kernel_rfl) ?_
  refine St.then_n ?_
  refine wp_seq ?_
  refine St.rgn ?_
  refine St.sg rfl (St.g_bslS (e := 5) rfl ([]) (fun _ => by kernel_rfl) 1 (by first | omega | (simp; omega) | simp) (by decide) HS1) ?_
  rintro _ w3 ⟨b2, rfl, _, HS4⟩
  clear HS1
  refine St.sv (.slice (some ⟨b2, 0, none⟩) 0 0) rfl (by kernel_rfl) ?_
  refine St.fin (⟨#[.string (bstr k), .int .u8 (b.toNat : Int), undef, undef, .string (bstr []), .slice (some ⟨b2, 0, none⟩) 0 0, undef, undef, .slice (some ⟨b2, 0, none⟩) 0 0, undef, undef, undef, undef, undef, undef, undef, undef, undef, undef, undef, undef, undef, undef, undef, undef, undef, undef, undef], []⟩) (by kernel_rfl) ?_
  refine St.then_n ?_
  refine wp_seq ?_
  refine wp_seq ?_
  refine St.rgn ?_
  refine St.sv (.int .i64 0) rfl (by kernel_rfl) ?_
  refine St.fin (⟨#[.string (bstr k), .int .u8 (b.toNat : Int), undef, undef, .string (bstr []), .slice (some ⟨b2, 0, none⟩) 0 0, .int .i64 0, undef, .slice (some ⟨b2, 0, none⟩) 0 0, undef, undef, undef, undef, undef, undef, undef, undef, undef, undef, undef, undef, undef, undef, undef, undef, undef, undef, undef], []⟩) (by kernel_rfl) ?_
  refine St.then_n ?_
  refine wp_block ?_
  refine St.loopI (fun n a w' => ∃ (i : Nat) (ao5 : Option Addr) (cp5 : Nat) (g5 : Option Nat) (u7 u9 u10 u11 u12 u13 u14 u15 u16 u17 u18 u19 u20 u21 u22 u23 u24 u25 : Value), n = 64 - i ∧ (i ≤ 64) ∧ a = ⟨#[.string (bstr k), .int .u8 (b.toNat : Int), undef, undef, .string (bstr []), .slice ao5 i cp5, .int .i64 (i : Int), u7, .slice (some ⟨b2, 0, none⟩) 0 0, u9, u10, u11, u12, u13, u14, u15, u16, u17, u18, u19, u20, u21, u22, u23, u24, u25, undef, undef], []⟩ ∧ St w w' [] [.sl 1 ao5 i cp5 (cellsOf (mx k b i)) g5]) (64 - 0) ⟨0, (some ⟨b2, 0, none⟩), 0, (some b2), _, _, _, _, _, _, _, _, _, _, _, _, _, _, _, _, _, _, rfl, (by first | omega | (simp; omega) | simp), rfl, HS4⟩ ?_
  rintro _ _ wr0 ⟨i, ao5, cp5, g5, u7, u9, u10, u11, u12, u13, u14, u15, u16, u17, u18, u19, u20, u21, u22, u23, u24, u25, rfl, hf0_0, rfl, HS5⟩
  clear HS4
  refine wp_seq ?_
  refine wp_seq ?_
  refine St.rgn ?_
  refine St.sv (.int .i64 (i : Int)) rfl (by kernel_rfl) ?_
  refine St.sv (.bool (decide ((i : Int) < 64))) rfl (by kernel_rfl) ?_
  refine St.fin (⟨#[.string (bstr k), .int .u8 (b.toNat : Int), undef, undef, .string (bstr []), .slice ao5 i cp5, .int .i64 (i : Int), u7, .slice (some ⟨b2, 0, none⟩) 0 0, .int .i64 (i : Int), .bool (decide ((i : Int) < 64)), u11, u12, u13, u14, u15, u16, u17, u18, u19, u20, u21, u22, u23, u24, u25, undef, undef], []⟩) (by kernel_rfl) ?_
  refine St.then_n ?_
  refine wp_cond_split (t := decide ((i : Int) < 64)) rfl (fun hc6 => ?_) (fun hc6 => ?_)
  · skip
    have q7 := of_decide_eq_true hc6
    refine wp_skip ?_
    refine St.then_n ?_
    refine wp_seq ?_
    refine wp_block ?_
    refine wp_seq ?_
    refine St.rgn ?_
    refine St.sv (.int .u8 0) rfl (by kernel_rfl) ?_
    refine St.fin (⟨#[.string (bstr k), .int .u8 (b.toNat : Int), undef, undef, .string (bstr []), .slice ao5 i cp5, .int .i64 (i : Int), .int .u8 0, .slice (some ⟨b2, 0, none⟩) 0 0, .int .i64 (i : Int), .bool (decide ((i : Int) < 64)), u11, u12, u13, u14, u15, u16, u17, u18, u19, u20, u21, u22, u23, u24, u25, undef, undef], []⟩) (by kernel_rfl) ?_
    refine St.then_n ?_
    refine wp_seq ?_
    refine wp_seq ?_
    refine St.rgn ?_
    refine St.sv (.int .i64 (i : Int)) rfl (by kernel_rfl) ?_
    refine St.sv (.string (bstr k)) rfl (by kernel_rfl) ?_
    refine St.sv (.int .i64 (k.length : Int)) rfl (St.e_len (l := k) 9 rfl Tryd.underlying9 (by kernel_rfl)) ?_
    refine St.sv (.bool (decide ((i : Int) < (k.length : Int)))) rfl (by kernel_rfl) ?_
    refine St.fin (⟨#[.string (bstr k), .int .u8 (b.toNat : Int), undef, undef, .string (bstr []), .slice ao5 i cp5, .int .i64 (i : Int), .int .u8 0, .slice (some ⟨b2, 0, none⟩) 0 0, .int .i64 (i : Int), .bool (decide ((i : Int) < 64)), u11, u12, .int .i64 (i : Int), .string (bstr k), .int .i64 (k.length : Int), .bool (decide ((i : Int) < (k.length : Int))), u17, u18, u19, u20, u21, u22, u23, u24, u25, undef, undef], []⟩) (by kernel_rfl) ?_
    refine St.then_n ?_
    refine wp_cond_split (t := decide ((i : Int) < (k.length : Int))) rfl (fun hc8 => ?_) (fun hc8 => ?_)
    · skip
      have q9 := of_decide_eq_true hc8
      refine St.rgn ?_
      refine St.sv (.string (bstr k)) rfl (by kernel_rfl) ?_
      refine St.sv (.int .i64 (i : Int)) rfl (by kernel_rfl) ?_
      refine St.sv (.int .u8 ((k.getD i 0).toNat : Int)) rfl (St.e_ixs (k := .i64) (l := k) (i := i) rfl Tryd.underlying9 (by kernel_rfl) (by kernel_rfl) (by first | omega | (simp; omega) | simp)) ?_
      refine St.sv (.int .u8 ((k.getD i 0).toNat : Int)) rfl (by kernel_rfl) ?_
      refine St.fin (⟨#[.string (bstr k), .int .u8 (b.toNat : Int), undef, undef, .string (bstr []), .slice ao5 i cp5, .int .i64 (i : Int), .int .u8 ((k.getD i 0).toNat : Int), .slice (some ⟨b2, 0, none⟩) 0 0, .int .i64 (i : Int), .bool (decide ((i : Int) < 64)), u11, u12, .int .i64 (i : Int), .string (bstr k), .int .i64 (k.length : Int), .bool (decide ((i : Int) < (k.length : Int))), .string (bstr k), .int .i64 (i : Int), .int .u8 ((k.getD i 0).toNat : Int), u20, u21, u22, u23, u24, u25, undef, undef], []⟩) (by kernel_rfl) ?_
      refine St.then_n ?_
      refine St.rgn ?_
      refine St.sv (.slice ao5 i cp5) rfl (by kernel_rfl) ?_
      refine St.sv (.int .u8 ((k.getD i 0).toNat : Int)) rfl (by kernel_rfl) ?_
      refine St.sv (.int .u8 (b.toNat : Int)) rfl (by kernel_rfl) ?_
      refine St.sv (.int .u8 (((k.getD i 0) ^^^ b).toNat : Int)) rfl (St.e_xor (a := ((k.getD i 0).toNat : Int)) (b := (b.toNat : Int)) rfl (by kernel_rfl) (by kernel_rfl) (St.w8_xor (k.getD i 0) b)) ?_
      refine St.sg rfl (St.g_bsl (e := 5) rfl ([.int .u8 (((k.getD i 0) ^^^ b).toNat : Int)]) (fun _ => by kernel_rfl) HS5) ?_
      rintro _ w11 ⟨b10, rfl, _, HS12⟩
      clear HS5
      refine St.sg rfl (St.g_app (m := 1) (c := 1) 27 5 rfl (.int .u8 0) 1 1 Tryd.underlying27 (by kernel_rfl) (by kernel_rfl) (by decide) (by kernel_rfl) HS12 1 rfl (by kernel_rfl) (HS12.row 0 rfl) (by first | omega | (simp; omega) | simp) (by simp [Value.oneCell']) (by first | omega | (simp; omega) | simp) (by first | omega | (simp; omega) | simp) _ (by first | rfl | omega) (cellsOf ((mx k b i) ++ [(k.getD i 0) ^^^ b])) (by first | with_reducible rfl | simp [cellsOf])) ?_
      rintro _ w16 ⟨ao13, cp14, g15, rfl, HS17⟩
      replace HS17 : St w w16 [] [.row b10 ([.int .u8 (((k.getD i 0) ^^^ b).toNat : Int)]), .sl 1 ao13 (i + 1) cp14 (cellsOf ((mx k b i) ++ [(k.getD i 0) ^^^ b])) g15] := HS17
      clear HS12
      refine St.sv (.slice ao13 (i + 1) cp14) rfl (by kernel_rfl) ?_
      refine St.fin (⟨#[.string (bstr k), .int .u8 (b.toNat : Int), undef, undef, .string (bstr []), .slice ao13 (i + 1) cp14, .int .i64 (i : Int), .int .u8 ((k.getD i 0).toNat : Int), .slice (some ⟨b2, 0, none⟩) 0 0, .int .i64 (i : Int), .bool (decide ((i : Int) < 64)), u11, u12, .int .i64 (i : Int), .string (bstr k), .int .i64 (k.length : Int), .bool (decide ((i : Int) < (k.length : Int))), .string (bstr k), .int .i64 (i : Int), .int .u8 ((k.getD i 0).toNat : Int), .slice ao5 i cp5, .int .u8 ((k.getD i 0).toNat : Int), .int .u8 (b.toNat : Int), .int .u8 (((k.getD i 0) ^^^ b).toNat : Int), .slice (some ⟨b10, 0, none⟩) 1 1, .slice ao13 (i + 1) cp14, undef, undef], []⟩) (by kernel_rfl) ?_
      refine St.inb_n ?_
      refine St.then_n ?_
      refine St.rgn ?_
      refine St.sv (.int .i64 (i : Int)) rfl (by kernel_rfl) ?_
      refine St.sv (.int .i64 ((i + 1 : Nat) : Int)) rfl (St.e_add (a := (i : Int)) (b := 1) rfl (by kernel_rfl) (by kernel_rfl) (by rw [IntKind.wrap_i64]; omega)) ?_
      refine St.sv (.int .i64 ((i + 1 : Nat) : Int)) rfl (by kernel_rfl) ?_
      refine St.fin (⟨#[.string (bstr k), .int .u8 (b.toNat : Int), undef, undef, .string (bstr []), .slice ao13 (i + 1) cp14, .int .i64 ((i + 1 : Nat) : Int), .int .u8 ((k.getD i 0).toNat : Int), .slice (some ⟨b2, 0, none⟩) 0 0, .int .i64 (i : Int), .bool (decide ((i : Int) < 64)), .int .i64 (i : Int), .int .i64 ((i + 1 : Nat) : Int), .int .i64 (i : Int), .string (bstr k), .int .i64 (k.length : Int), .bool (decide ((i : Int) < (k.length : Int))), .string (bstr k), .int .i64 (i : Int), .int .u8 ((k.getD i 0).toNat : Int), .slice ao5 i cp5, .int .u8 ((k.getD i 0).toNat : Int), .int .u8 (b.toNat : Int), .int .u8 (((k.getD i 0) ^^^ b).toNat : Int), .slice (some ⟨b10, 0, none⟩) 1 1, .slice ao13 (i + 1) cp14, undef, undef], []⟩) (by kernel_rfl) ?_
      refine St.then_n ?_
      first | rw [mx_next k b i hk (by omega) _ (fill_in k i (by omega))] at HS17 | rw [mx_next k b i hk (by omega) _ (fill_out k i (by omega))] at HS17
      have HS18 := St.dropn 1 HS17
      refine ⟨_, ?_, (i + 1), ao13, cp14, g15, _, _, _, _, _, _, _, _, _, _, _, _, _, _, _, _, _, _, rfl, ?_, rfl, ?_⟩
      · omega
      · exact (by first | omega | (simp; omega) | simp)
      · exact HS18
    · skip
      have q19 := of_decide_eq_false hc8
      refine wp_skip ?_
      refine St.then_n ?_
      refine St.rgn ?_
      refine St.sv (.slice ao5 i cp5) rfl (by kernel_rfl) ?_
      refine St.sv (.int .u8 0) rfl (by kernel_rfl) ?_
      refine St.sv (.int .u8 (b.toNat : Int)) rfl (by kernel_rfl) ?_
      refine St.sv (.int .u8 (((0 : UInt8) ^^^ b).toNat : Int)) rfl (St.e_xor (a := ((0 : UInt8).toNat : Int)) (b := (b.toNat : Int)) rfl (by kernel_rfl) (by kernel_rfl) (St.w8_xor (0 : UInt8) b)) ?_
      refine St.sg rfl (St.g_bsl (e := 5) rfl ([.int .u8 (((0 : UInt8) ^^^ b).toNat : Int)]) (fun _ => by kernel_rfl) HS5) ?_
      rintro _ w21 ⟨b20, rfl, _, HS22⟩
      clear HS5
      refine St.sg rfl (St.g_app (m := 1) (c := 1) 27 5 rfl (.int .u8 0) 1 1 Tryd.underlying27 (by kernel_rfl) (by kernel_rfl) (by decide) (by kernel_rfl) HS22 1 rfl (by kernel_rfl) (HS22.row 0 rfl) (by first | omega | (simp; omega) | simp) (by simp [Value.oneCell']) (by first | omega | (simp; omega) | simp) (by first | omega | (simp; omega) | simp) _ (by first | rfl | omega) (cellsOf ((mx k b i) ++ [(0 : UInt8) ^^^ b])) (by first | with_reducible rfl | simp [cellsOf])) ?_
      rintro _ w26 ⟨ao23, cp24, g25, rfl, HS27⟩
      replace HS27 : St w w26 [] [.row b20 ([.int .u8 (((0 : UInt8) ^^^ b).toNat : Int)]), .sl 1 ao23 (i + 1) cp24 (cellsOf ((mx k b i) ++ [(0 : UInt8) ^^^ b])) g25] := HS27
      clear HS22
      refine St.sv (.slice ao23 (i + 1) cp24) rfl (by kernel_rfl) ?_
      refine St.fin (⟨#[.string (bstr k), .int .u8 (b.toNat : Int), undef, undef, .string (bstr []), .slice ao23 (i + 1) cp24, .int .i64 (i : Int), .int .u8 0, .slice (some ⟨b2, 0, none⟩) 0 0, .int .i64 (i : Int), .bool (decide ((i : Int) < 64)), u11, u12, .int .i64 (i : Int), .string (bstr k), .int .i64 (k.length : Int), .bool (decide ((i : Int) < (k.length : Int))), u17, u18, u19, .slice ao5 i cp5, .int .u8 0, .int .u8 (b.toNat : Int), .int .u8 (((0 : UInt8) ^^^ b).toNat : Int), .slice (some ⟨b20, 0, none⟩) 1 1, .slice ao23 (i + 1) cp24, undef, undef], []⟩) (by kernel_rfl) ?_
      refine St.inb_n ?_
      refine St.then_n ?_
      refine St.rgn ?_
      refine St.sv (.int .i64 (i : Int)) rfl (by kernel_rfl) ?_
      refine St.sv (.int .i64 ((i + 1 : Nat) : Int)) rfl (St.e_add (a := (i : Int)) (b := 1) rfl (by kernel_rfl) (by kernel_rfl) (by rw [IntKind.wrap_i64]; omega)) ?_
      refine St.sv (.int .i64 ((i + 1 : Nat) : Int)) rfl (by kernel_rfl) ?_
      refine St.fin (⟨#[.string (bstr k), .int .u8 (b.toNat : Int), undef, undef, .string (bstr []), .slice ao23 (i + 1) cp24, .int .i64 ((i + 1 : Nat) : Int), .int .u8 0, .slice (some ⟨b2, 0, none⟩) 0 0, .int .i64 (i : Int), .bool (decide ((i : Int) < 64)), .int .i64 (i : Int), .int .i64 ((i + 1 : Nat) : Int), .int .i64 (i : Int), .string (bstr k), .int .i64 (k.length : Int), .bool (decide ((i : Int) < (k.length : Int))), u17, u18, u19, .slice ao5 i cp5, .int .u8 0, .int .u8 (b.toNat : Int), .int .u8 (((0 : UInt8) ^^^ b).toNat : Int), .slice (some ⟨b20, 0, none⟩) 1 1, .slice ao23 (i + 1) cp24, undef, undef], []⟩) (by kernel_rfl) ?_
      refine St.then_n ?_
      first | rw [mx_next k b i hk (by omega) _ (fill_in k i (by omega))] at HS27 | rw [mx_next k b i hk (by omega) _ (fill_out k i (by omega))] at HS27
      have HS28 := St.dropn 1 HS27
      refine ⟨_, ?_, (i + 1), ao23, cp24, g25, _, _, _, _, _, _, _, _, _, _, _, _, _, _, _, _, _, _, rfl, ?_, rfl, ?_⟩
      · omega
      · exact (by first | omega | (simp; omega) | simp)
      · exact HS28
  · skip
    have q29 := of_decide_eq_false hc6
    obtain rfl : i = 64 := by omega
    have HS30 : St w wr0 [] [.sl 1 ao5 64 cp5 (cellsOf (mx k b 64)) g5] := HS5; clear HS5
    refine wp_exit ?_
    refine St.then_e ?_
    refine St.then_e ?_
    refine St.inb_h ?_
    refine St.then_n ?_
    refine wp_seq ?_
    refine St.rgn ?_
    refine St.sv (.slice ao5 64 cp5) rfl (by kernel_rfl) ?_
    refine St.sv (.string (bstr (mx k b 64))) rfl (St.e_bss (l := mx k b 64) rfl Tryd.underlying27 Tryd.underlying5 Tryd.underlying9 (by kernel_rfl) (HS30.srow 0 rfl)) ?_
    refine St.sv (.string (bstr (mx k b 64))) rfl (by kernel_rfl) ?_
    refine St.fin (⟨#[.string (bstr k), .int .u8 (b.toNat : Int), undef, undef, .string (bstr (mx k b 64)), .slice ao5 64 cp5, .int .i64 64, u7, .slice (some ⟨b2, 0, none⟩) 0 0, .int .i64 64, .bool (decide ((64 : Int) < 64)), u11, u12, u13, u14, u15, u16, u17, u18, u19, u20, u21, u22, u23, u24, u25, .slice ao5 64 cp5, .string (bstr (mx k b 64))], []⟩) (by kernel_rfl) ?_
    refine St.then_n ?_
    refine wp_ret ?_
    refine bodyPost_ret (v := .string (bstr (mx k b 64))) (by kernel_rfl) rfl ?_
    -- end 0: [.sl 1 ao5 64 cp5 (cellsOf (mx k b 64)) g5]
    exact ⟨by rw [mx, List.take_of_length_le (by rw [mix_length, fill_length k hk]; omega)], HS30.only⟩
set_option maxHeartbeats 8000000 in
theorem reftag_any (k s : List UInt8) (hk : k.length ≤ 1000000) (hl : s.length ≤ 1000000) (w : World) :
    Calls Tryd.prog 11 #[.string (bstr k), .string (bstr s)] w fun r w' => r = .returned (.agg (cellsOf (tag k s)).toArray) ∧ OnlyNew w w' := by
  refine calls_of_wp Tryd.func11 rfl ?_
  refine St.ent0 (⟨#[.string (bstr k), .string (bstr s), undef, undef, undef, undef, undef, undef, undef, undef, undef, undef, undef, undef, undef, undef, undef, undef, undef, undef, undef, undef, undef, undef, undef, undef, undef], []⟩) (by kernel_rfl) ?_
  have HS1 : St w w [] [] := St.nil _ _
  refine wp_seq ?_
  refine St.rgn ?_
  refine St.sg rfl (St.g_alloc 24 rfl (cellsOf (List.replicate 32 0)) (by kernel_rfl) HS1) ?_
  rintro _ w3 ⟨b2, rfl, _, HS4⟩
  clear HS1
  refine St.fin (⟨#[.string (bstr k), .string (bstr s), undef, undef, .pointer (some ⟨b2, 0, none⟩), undef, undef, undef, undef, undef, undef, undef, undef, undef, undef, undef, undef, undef, undef, undef, undef, undef, undef, undef, undef, undef, undef], []⟩) (by kernel_rfl) ?_
  refine St.then_n ?_
  refine wp_seq ?_
  refine St.rgn ?_
  refine St.sv (.string (bstr k)) rfl (by kernel_rfl) ?_
  refine St.sv (.string (bstr k)) rfl (by kernel_rfl) ?_
  refine St.fin (⟨#[.string (bstr k), .string (bstr s), undef, undef, .pointer (some ⟨b2, 0, none⟩), .string (bstr k), undef, undef, .string (bstr k), undef, undef, undef, undef, undef, undef, undef, undef, undef, undef, undef, undef, undef, undef, undef, undef, undef, undef], []⟩) (by kernel_rfl) ?_
  refine St.then_n ?_
  refine wp_seq ?_
  refine wp_seq ?_
  refine St.rgn ?_
  refine St.sv (.string (bstr k)) rfl (by kernel_rfl) ?_
  refine St.sv (.int .i64 (k.length : Int)) rfl (St.e_len (l := k) 9 rfl Tryd.underlying9 (by kernel_rfl)) ?_
  refine St.sv (.bool (decide ((k.length : Int) > 64))) rfl (by kernel_rfl) ?_
  refine St.fin (⟨#[.string (bstr k), .string (bstr s), undef, undef, .pointer (some ⟨b2, 0, none⟩), .string (bstr k), undef, undef, .string (bstr k), .string (bstr k), .int .i64 (k.length : Int), .bool (decide ((k.length : Int) > 64)), undef, undef, undef, undef, undef, undef, undef, undef, undef, undef, undef, undef, undef, undef, undef], []⟩) (by kernel_rfl) ?_
  refine St.then_n ?_
  refine wp_cond_split (t := decide ((k.length : Int) > 64)) rfl (fun hc5 => ?_) (fun hc5 => ?_)
  · skip
    have q6 := of_decide_eq_true hc5
    refine wp_seq ?_
    refine St.rgn ?_
    refine St.sv (.string (bstr k)) rfl (by kernel_rfl) ?_
    refine St.scall rfl (by kernel_rfl) (Dig.refsha_any k (by first | omega | (simp; omega) | simp) w3) ?_
    rintro _ w7 ⟨rfl, h8⟩; refine ⟨_, rfl, ?_⟩
    have HS9 := HS4.quiet h8
    clear HS4
    refine St.sg rfl (St.g_alloc 24 rfl (cellsOf (List.replicate 32 0)) (by kernel_rfl) HS9) ?_
    rintro _ w11 ⟨b10, rfl, _, HS12⟩
    clear HS9
    refine St.sg rfl (St.g_stores (i := 0) rfl (by kernel_rfl) (cellsOf (sha k)) (by kernel_rfl) (cellsOf_one _) 32 rfl HS12 0 rfl [] (cellsOf (List.replicate 32 0)) [] (by first | with_reducible rfl | simp only [List.append_assoc, List.cons_append, List.nil_append, List.append_nil]) (by first | omega | (simp; omega) | simp) (by first | omega | (simp; omega) | simp) (by first | omega | (simp; omega) | simp) (cellsOf (sha k)) (by first | with_reducible rfl | simp only [List.append_assoc, List.cons_append, List.nil_append, List.append_nil])) ?_
    rintro _ w13 ⟨rfl, HS14⟩
    replace HS14 : St w w13 [] [.row b10 (cellsOf (sha k)), .row b2 (cellsOf (List.replicate 32 0))] := HS14
    clear HS12
    refine St.fin (⟨#[.string (bstr k), .string (bstr s), undef, undef, .pointer (some ⟨b2, 0, none⟩), .string (bstr k), .pointer (some ⟨b10, 0, none⟩), undef, .string (bstr k), .string (bstr k), .int .i64 (k.length : Int), .bool (decide ((k.length : Int) > 64)), .string (bstr k), .agg (cellsOf (sha k)).toArray, undef, undef, undef, undef, undef, undef, undef, undef, undef, undef, undef, undef, undef], []⟩) (by kernel_rfl) ?_
    refine St.then_n ?_
    refine St.rgn ?_
    refine St.sv (.slice (some ⟨b10, 0, none⟩) 32 32) rfl (by kernel_rfl) ?_
    refine St.sv (.string (bstr (sha k))) rfl (St.e_bs (l := sha k) (n := 32) (cap := 32) rfl Tryd.underlying27 Tryd.underlying5 Tryd.underlying9 (by kernel_rfl) (HS14.row 0 rfl) (by first | omega | (simp; omega) | simp)) ?_
    refine St.sv (.string (bstr (sha k))) rfl (by kernel_rfl) ?_
    refine St.fin (⟨#[.string (bstr k), .string (bstr s), undef, undef, .pointer (some ⟨b2, 0, none⟩), .string (bstr (sha k)), .pointer (some ⟨b10, 0, none⟩), undef, .string (bstr k), .string (bstr k), .int .i64 (k.length : Int), .bool (decide ((k.length : Int) > 64)), .string (bstr k), .agg (cellsOf (sha k)).toArray, .slice (some ⟨b10, 0, none⟩) 32 32, .string (bstr (sha k)), undef, undef, undef, undef, undef, undef, undef, undef, undef, undef, undef], []⟩) (by kernel_rfl) ?_
    refine St.then_n ?_
    refine wp_seq ?_
    refine St.rgn ?_
    refine St.sv (.string (bstr (sha k))) rfl (by kernel_rfl) ?_
    refine St.scall rfl (by kernel_rfl) (Seal.mixed_any (sha k) 54 (by first | omega | (simp; omega) | simp) w13) ?_
    rintro _ w15 ⟨rfl, h16⟩; refine ⟨_, rfl, ?_⟩
    have HS17 := HS14.quiet h16
    clear HS14
    refine St.sv (.string (bstr s)) rfl (by kernel_rfl) ?_
    refine St.sv (.string (bstr ((mix (fill (sha k)) 54) ++ s))) rfl (St.e_cat (l := mix (fill (sha k)) 54) (m := s) rfl (by kernel_rfl) (by kernel_rfl) (by first | omega | (simp; omega) | simp)) ?_
    refine St.scall rfl (by kernel_rfl) (Dig.refsha_any ((mix (fill (sha k)) 54) ++ s) (by first | omega | (simp; omega) | simp) w15) ?_
    rintro _ w18 ⟨rfl, h19⟩; refine ⟨_, rfl, ?_⟩
    have HS20 := HS17.quiet h19
    clear HS17
    refine St.sg rfl (St.g_alloc 24 rfl (cellsOf (List.replicate 32 0)) (by kernel_rfl) HS20) ?_
    rintro _ w22 ⟨b21, rfl, _, HS23⟩
    clear HS20
    refine St.sg rfl (St.g_stores (i := 0) rfl (by kernel_rfl) (cellsOf (sha ((mix (fill (sha k)) 54) ++ s))) (by kernel_rfl) (cellsOf_one _) 32 rfl HS23 0 rfl [] (cellsOf (List.replicate 32 0)) [] (by first | with_reducible rfl | simp only [List.append_assoc, List.cons_append, List.nil_append, List.append_nil]) (by first | omega | (simp; omega) | simp) (by first | omega | (simp; omega) | simp) (by first | omega | (simp; omega) | simp) (cellsOf (sha ((mix (fill (sha k)) 54) ++ s))) (by first | with_reducible rfl | simp only [List.append_assoc, List.cons_append, List.nil_append, List.append_nil])) ?_
    rintro _ w24 ⟨rfl, HS25⟩
    replace HS25 : St w w24 [] [.row b21 (cellsOf (sha ((mix (fill (sha k)) 54) ++ s))), .row b10 (cellsOf (sha k)), .row b2 (cellsOf (List.replicate 32 0))] := HS25
    clear HS23
    refine St.fin (⟨#[.string (bstr k), .string (bstr s), undef, undef, .pointer (some ⟨b2, 0, none⟩), .string (bstr (sha k)), .pointer (some ⟨b10, 0, none⟩), .pointer (some ⟨b21, 0, none⟩), .string (bstr k), .string (bstr k), .int .i64 (k.length : Int), .bool (decide ((k.length : Int) > 64)), .string (bstr k), .agg (cellsOf (sha k)).toArray, .slice (some ⟨b10, 0, none⟩) 32 32, .string (bstr (sha k)), .string (bstr (sha k)), .string (bstr (mix (fill (sha k)) 54)), .string (bstr s), .string (bstr ((mix (fill (sha k)) 54) ++ s)), .agg (cellsOf (sha ((mix (fill (sha k)) 54) ++ s))).toArray, undef, undef, undef, undef, undef, undef], []⟩) (by kernel_rfl) ?_
    refine St.then_n ?_
    refine wp_seq ?_
    refine Lin2.region_lin [0, 1, 0, 4, 15, 31, 63] [] [6] (fun _ => True) (St.StK w [] [[.row b21 (cellsOf (sha ((mix (fill (sha k)) 54) ++ s))), .row b10 (cellsOf (sha k)), .row b2 (cellsOf (List.replicate 32 0)), (.big w24.heap.size)], [.row b21 (cellsOf (sha ((mix (fill (sha k)) 54) ++ s))), .row b10 (cellsOf (sha k)), .row b2 (cellsOf (sha ((mix (fill (sha k)) 92) ++ (sha ((mix (fill (sha k)) 54) ++ s))))), (.big w24.heap.size)]]) St.StK.quiet 27 (by kernel_rfl) rfl (by kernel_rfl) HS25.big.drew ?_
    refine Lin2.walk_pure (.string (bstr (sha k))) (by kernel_rfl) (by kernel_rfl) (by kernel_rfl) (fun w1 => (by kernel_rfl)) ?_; intro S' hS'; subst hS'
    refine St.walk_callS [] (.string (bstr (mix (fill (sha k)) 92))) 0 0 (by kernel_rfl) (by kernel_rfl) (by kernel_rfl) (by kernel_rfl) (fun _ => by kernel_rfl) (by intro f w1 k1 hF _ h1 h2 hI; obtain rfl : k1 = 0 := (by omega); have HS : St w w1 [] [.row b21 (cellsOf (sha ((mix (fill (sha k)) 54) ++ s))), .row b10 (cellsOf (sha k)), .row b2 (cellsOf (List.replicate 32 0)), (.big w24.heap.size)] := hI; refine St.g_call (by kernel_rfl) (Seal.mixed_any (sha k) 92 (by first | omega | (simp; omega) | simp) w1) ?_; rintro _ w28 ⟨rfl, h29⟩; exact ⟨_, rfl, rfl, h29⟩) ?_; intro S' hS'; subst hS'
    refine Lin2.walk_pure (.slice (some ⟨b21, 0, none⟩) 32 32) (by kernel_rfl) (by kernel_rfl) (by kernel_rfl) (fun w1 => (by kernel_rfl)) ?_; intro S' hS'; subst hS'
    refine Lin2.walk_read (.string (bstr (sha ((mix (fill (sha k)) 54) ++ s)))) 0 0 (by kernel_rfl) (by kernel_rfl) (by kernel_rfl) (by kernel_rfl) (by kernel_rfl) (by intro w1 k1 _ h1 h2 hI; obtain rfl : k1 = 0 := (by omega); have HS : St w w1 [] [.row b21 (cellsOf (sha ((mix (fill (sha k)) 54) ++ s))), .row b10 (cellsOf (sha k)), .row b2 (cellsOf (List.replicate 32 0)), (.big w24.heap.size)] := hI; exact (St.e_bs (l := sha ((mix (fill (sha k)) 54) ++ s)) (n := 32) (cap := 32) rfl Tryd.underlying27 Tryd.underlying5 Tryd.underlying9 (by kernel_rfl) (HS.row 0 rfl) (by first | omega | (simp; omega) | simp))) ?_; intro S' hS'; subst hS'
    refine Lin2.walk_pure (.string (bstr ((mix (fill (sha k)) 92) ++ (sha ((mix (fill (sha k)) 54) ++ s))))) (by kernel_rfl) (by kernel_rfl) (by kernel_rfl) (fun w1 => (St.e_cat (l := mix (fill (sha k)) 92) (m := sha ((mix (fill (sha k)) 54) ++ s)) rfl (by kernel_rfl) (by kernel_rfl) (by first | omega | (simp; omega) | simp))) ?_; intro S' hS'; subst hS'
    refine St.walk_callS [] (.agg (cellsOf (sha ((mix (fill (sha k)) 92) ++ (sha ((mix (fill (sha k)) 54) ++ s))))).toArray) 0 0 (by kernel_rfl) (by kernel_rfl) (by kernel_rfl) (by kernel_rfl) (fun _ => by kernel_rfl) (by intro f w1 k1 hF _ h1 h2 hI; obtain rfl : k1 = 0 := (by omega); have HS : St w w1 [] [.row b21 (cellsOf (sha ((mix (fill (sha k)) 54) ++ s))), .row b10 (cellsOf (sha k)), .row b2 (cellsOf (List.replicate 32 0)), (.big w24.heap.size)] := hI; refine St.g_call (by kernel_rfl) (Dig.refsha_any ((mix (fill (sha k)) 92) ++ (sha ((mix (fill (sha k)) 54) ++ s))) (by first | omega | (simp; omega) | simp) w1) ?_; rintro _ w31 ⟨rfl, h32⟩; exact ⟨_, rfl, rfl, h32⟩) ?_; intro S' hS'; subst hS'
    refine St.walk_effS [] (undef) 0 (by kernel_rfl) (by kernel_rfl) (by kernel_rfl) (by kernel_rfl) (fun _ => by kernel_rfl) (by intro f w1 _ _ hI; have HS : St w w1 [] [.row b21 (cellsOf (sha ((mix (fill (sha k)) 54) ++ s))), .row b10 (cellsOf (sha k)), .row b2 (cellsOf (List.replicate 32 0)), (.big w24.heap.size)] := hI; exact St.gives.mono (St.g_stores (i := 0) rfl (by kernel_rfl) (cellsOf (sha ((mix (fill (sha k)) 92) ++ (sha ((mix (fill (sha k)) 54) ++ s))))) (by kernel_rfl) (cellsOf_one _) 32 rfl HS 2 rfl [] (cellsOf (List.replicate 32 0)) [] (by first | with_reducible rfl | simp only [List.append_assoc, List.cons_append, List.nil_append, List.append_nil]) (by first | omega | (simp; omega) | simp) (by first | omega | (simp; omega) | simp) (by first | omega | (simp; omega) | simp) (cellsOf (sha ((mix (fill (sha k)) 92) ++ (sha ((mix (fill (sha k)) 54) ++ s))))) (by first | with_reducible rfl | simp only [List.append_assoc, List.cons_append, List.nil_append, List.append_nil])) (fun u w' h => ⟨h.1, St.chgT HS25 h.2 (i := 3) rfl, h.2, fun i hi => by cases hi⟩)) ?_; intro S' hS'; subst hS'
    refine Lin2.walk_end0 rfl ?_; intro w34 _ hI
    have HS35 : St w w34 [] [.row b21 (cellsOf (sha ((mix (fill (sha k)) 54) ++ s))), .row b10 (cellsOf (sha k)), .row b2 (cellsOf (sha ((mix (fill (sha k)) 92) ++ (sha ((mix (fill (sha k)) 54) ++ s)))))] := St.unbig (e := .big w24.heap.size) hI; clear hI HS25
    refine St.finQ (⟨#[.string (bstr k), .string (bstr s), undef, undef, .pointer (some ⟨b2, 0, none⟩), .string (bstr (sha k)), .pointer (some ⟨b10, 0, none⟩), .pointer (some ⟨b21, 0, none⟩), .string (bstr k), .string (bstr k), .int .i64 (k.length : Int), .bool (decide ((k.length : Int) > 64)), .string (bstr k), .agg (cellsOf (sha k)).toArray, .slice (some ⟨b10, 0, none⟩) 32 32, .string (bstr (sha k)), .string (bstr (sha k)), .string (bstr (mix (fill (sha k)) 54)), .string (bstr s), .string (bstr ((mix (fill (sha k)) 54) ++ s)), .agg (cellsOf (sha ((mix (fill (sha k)) 54) ++ s))).toArray, .string (bstr (sha k)), .string (bstr (mix (fill (sha k)) 92)), .slice (some ⟨b21, 0, none⟩) 32 32, .string (bstr (sha ((mix (fill (sha k)) 54) ++ s))), .string (bstr ((mix (fill (sha k)) 92) ++ (sha ((mix (fill (sha k)) 54) ++ s)))), .agg (cellsOf (sha ((mix (fill (sha k)) 92) ++ (sha ((mix (fill (sha k)) 54) ++ s))))).toArray], []⟩) (by kernel_rfl) ?_
    refine St.then_n ?_
    refine wp_ret ?_
    refine bodyPost_ret (v := .agg (cellsOf (sha ((mix (fill (sha k)) 92) ++ (sha ((mix (fill (sha k)) 54) ++ s))))).toArray) (St.resc rfl _ (by kernel_rfl) _ Tryd.underlying24 rfl 32 rfl (HS35.row 2 rfl) (by first | omega | (simp; omega) | simp)) rfl ?_
    -- end 0: [.row b21 (cellsOf (sha ((mix (fill (sha k)) 54) ++ s))), .row b10 (cellsOf (sha k)), .row b2 (cellsOf (sha ((mix (fill (sha k)) 92) ++ (sha ((mix (fill (sha k)) 54) ++ s)))))]
    exact ⟨by rw [tag, keyed, if_pos (by omega)]; rfl, HS35.only⟩
  · skip
    have q36 := of_decide_eq_false hc5
    refine wp_skip ?_
    refine St.then_n ?_
    refine wp_seq ?_
    refine St.rgn ?_
    refine St.sv (.string (bstr k)) rfl (by kernel_rfl) ?_
    refine St.scall rfl (by kernel_rfl) (Seal.mixed_any k 54 (by first | omega | (simp; omega) | simp) w3) ?_
    rintro _ w37 ⟨rfl, h38⟩; refine ⟨_, rfl, ?_⟩
    have HS39 := HS4.quiet h38
    clear HS4
    refine St.sv (.string (bstr s)) rfl (by kernel_rfl) ?_
    refine St.sv (.string (bstr ((mix (fill k) 54) ++ s))) rfl (St.e_cat (l := mix (fill k) 54) (m := s) rfl (by kernel_rfl) (by kernel_rfl) (by first | omega | (simp; omega) | simp)) ?_
    refine St.scall rfl (by kernel_rfl) (Dig.refsha_any ((mix (fill k) 54) ++ s) (by first | omega | (simp; omega) | simp) w37) ?_
    rintro _ w40 ⟨rfl, h41⟩; refine ⟨_, rfl, ?_⟩
    have HS42 := HS39.quiet h41
    clear HS39
    refine St.sg rfl (St.g_alloc 24 rfl (cellsOf (List.replicate 32 0)) (by kernel_rfl) HS42) ?_
    rintro _ w44 ⟨b43, rfl, _, HS45⟩
    clear HS42
    refine St.sg rfl (St.g_stores (i := 0) rfl (by kernel_rfl) (cellsOf (sha ((mix (fill k) 54) ++ s))) (by kernel_rfl) (cellsOf_one _) 32 rfl HS45 0 rfl [] (cellsOf (List.replicate 32 0)) [] (by first | with_reducible rfl | simp only [List.append_assoc, List.cons_append, List.nil_append, List.append_nil]) (by first | omega | (simp; omega) | simp) (by first | omega | (simp; omega) | simp) (by first | omega | (simp; omega) | simp) (cellsOf (sha ((mix (fill k) 54) ++ s))) (by first | with_reducible rfl | simp only [List.append_assoc, List.cons_append, List.nil_append, List.append_nil])) ?_
    rintro _ w46 ⟨rfl, HS47⟩
    replace HS47 : St w w46 [] [.row b43 (cellsOf (sha ((mix (fill k) 54) ++ s))), .row b2 (cellsOf (List.replicate 32 0))] := HS47
    clear HS45
    refine St.fin (⟨#[.string (bstr k), .string (bstr s), undef, undef, .pointer (some ⟨b2, 0, none⟩), .string (bstr k), undef, .pointer (some ⟨b43, 0, none⟩), .string (bstr k), .string (bstr k), .int .i64 (k.length : Int), .bool (decide ((k.length : Int) > 64)), undef, undef, undef, undef, .string (bstr k), .string (bstr (mix (fill k) 54)), .string (bstr s), .string (bstr ((mix (fill k) 54) ++ s)), .agg (cellsOf (sha ((mix (fill k) 54) ++ s))).toArray, undef, undef, undef, undef, undef, undef], []⟩) (by kernel_rfl) ?_
    refine St.then_n ?_
    refine wp_seq ?_
    refine Lin2.region_lin [0, 1, 0, 4, 15, 31, 63] [] [6] (fun _ => True) (St.StK w [] [[.row b43 (cellsOf (sha ((mix (fill k) 54) ++ s))), .row b2 (cellsOf (List.replicate 32 0)), (.big w46.heap.size)], [.row b43 (cellsOf (sha ((mix (fill k) 54) ++ s))), .row b2 (cellsOf (sha ((mix (fill k) 92) ++ (sha ((mix (fill k) 54) ++ s))))), (.big w46.heap.size)]]) St.StK.quiet 27 (by kernel_rfl) rfl (by kernel_rfl) HS47.big.drew ?_
    refine Lin2.walk_pure (.string (bstr k)) (by kernel_rfl) (by kernel_rfl) (by kernel_rfl) (fun w1 => (by kernel_rfl)) ?_; intro S' hS'; subst hS'
    refine St.walk_callS [] (.string (bstr (mix (fill k) 92))) 0 0 (by kernel_rfl) (by kernel_rfl) (by kernel_rfl) (by kernel_rfl) (fun _ => by kernel_rfl) (by intro f w1 k1 hF _ h1 h2 hI; obtain rfl : k1 = 0 := (by omega); have HS : St w w1 [] [.row b43 (cellsOf (sha ((mix (fill k) 54) ++ s))), .row b2 (cellsOf (List.replicate 32 0)), (.big w46.heap.size)] := hI; refine St.g_call (by kernel_rfl) (Seal.mixed_any k 92 (by first | omega | (simp; omega) | simp) w1) ?_; rintro _ w50 ⟨rfl, h51⟩; exact ⟨_, rfl, rfl, h51⟩) ?_; intro S' hS'; subst hS'
    refine Lin2.walk_pure (.slice (some ⟨b43, 0, none⟩) 32 32) (by kernel_rfl) (by kernel_rfl) (by kernel_rfl) (fun w1 => (by kernel_rfl)) ?_; intro S' hS'; subst hS'
    refine Lin2.walk_read (.string (bstr (sha ((mix (fill k) 54) ++ s)))) 0 0 (by kernel_rfl) (by kernel_rfl) (by kernel_rfl) (by kernel_rfl) (by kernel_rfl) (by intro w1 k1 _ h1 h2 hI; obtain rfl : k1 = 0 := (by omega); have HS : St w w1 [] [.row b43 (cellsOf (sha ((mix (fill k) 54) ++ s))), .row b2 (cellsOf (List.replicate 32 0)), (.big w46.heap.size)] := hI; exact (St.e_bs (l := sha ((mix (fill k) 54) ++ s)) (n := 32) (cap := 32) rfl Tryd.underlying27 Tryd.underlying5 Tryd.underlying9 (by kernel_rfl) (HS.row 0 rfl) (by first | omega | (simp; omega) | simp))) ?_; intro S' hS'; subst hS'
    refine Lin2.walk_pure (.string (bstr ((mix (fill k) 92) ++ (sha ((mix (fill k) 54) ++ s))))) (by kernel_rfl) (by kernel_rfl) (by kernel_rfl) (fun w1 => (St.e_cat (l := mix (fill k) 92) (m := sha ((mix (fill k) 54) ++ s)) rfl (by kernel_rfl) (by kernel_rfl) (by first | omega | (simp; omega) | simp))) ?_; intro S' hS'; subst hS'
    refine St.walk_callS [] (.agg (cellsOf (sha ((mix (fill k) 92) ++ (sha ((mix (fill k) 54) ++ s))))).toArray) 0 0 (by kernel_rfl) (by kernel_rfl) (by kernel_rfl) (by kernel_rfl) (fun _ => by kernel_rfl) (by intro f w1 k1 hF _ h1 h2 hI; obtain rfl : k1 = 0 := (by omega); have HS : St w w1 [] [.row b43 (cellsOf (sha ((mix (fill k) 54) ++ s))), .row b2 (cellsOf (List.replicate 32 0)), (.big w46.heap.size)] := hI; refine St.g_call (by kernel_rfl) (Dig.refsha_any ((mix (fill k) 92) ++ (sha ((mix (fill k) 54) ++ s))) (by first | omega | (simp; omega) | simp) w1) ?_; rintro _ w53 ⟨rfl, h54⟩; exact ⟨_, rfl, rfl, h54⟩) ?_; intro S' hS'; subst hS'
    refine St.walk_effS [] (undef) 0 (by kernel_rfl) (by kernel_rfl) (by kernel_rfl) (by kernel_rfl) (fun _ => by kernel_rfl) (by intro f w1 _ _ hI; have HS : St w w1 [] [.row b43 (cellsOf (sha ((mix (fill k) 54) ++ s))), .row b2 (cellsOf (List.replicate 32 0)), (.big w46.heap.size)] := hI; exact St.gives.mono (St.g_stores (i := 0) rfl (by kernel_rfl) (cellsOf (sha ((mix (fill k) 92) ++ (sha ((mix (fill k) 54) ++ s))))) (by kernel_rfl) (cellsOf_one _) 32 rfl HS 1 rfl [] (cellsOf (List.replicate 32 0)) [] (by first | with_reducible rfl | simp only [List.append_assoc, List.cons_append, List.nil_append, List.append_nil]) (by first | omega | (simp; omega) | simp) (by first | omega | (simp; omega) | simp) (by first | omega | (simp; omega) | simp) (cellsOf (sha ((mix (fill k) 92) ++ (sha ((mix (fill k) 54) ++ s))))) (by first | with_reducible rfl | simp only [List.append_assoc, List.cons_append, List.nil_append, List.append_nil])) (fun u w' h => ⟨h.1, St.chgT HS47 h.2 (i := 2) rfl, h.2, fun i hi => by cases hi⟩)) ?_; intro S' hS'; subst hS'
    refine Lin2.walk_end0 rfl ?_; intro w56 _ hI
    have HS57 : St w w56 [] [.row b43 (cellsOf (sha ((mix (fill k) 54) ++ s))), .row b2 (cellsOf (sha ((mix (fill k) 92) ++ (sha ((mix (fill k) 54) ++ s)))))] := St.unbig (e := .big w46.heap.size) hI; clear hI HS47
    refine St.finQ (⟨#[.string (bstr k), .string (bstr s), undef, undef, .pointer (some ⟨b2, 0, none⟩), .string (bstr k), undef, .pointer (some ⟨b43, 0, none⟩), .string (bstr k), .string (bstr k), .int .i64 (k.length : Int), .bool (decide ((k.length : Int) > 64)), undef, undef, undef, undef, .string (bstr k), .string (bstr (mix (fill k) 54)), .string (bstr s), .string (bstr ((mix (fill k) 54) ++ s)), .agg (cellsOf (sha ((mix (fill k) 54) ++ s))).toArray, .string (bstr k), .string (bstr (mix (fill k) 92)), .slice (some ⟨b43, 0, none⟩) 32 32, .string (bstr (sha ((mix (fill k) 54) ++ s))), .string (bstr ((mix (fill k) 92) ++ (sha ((mix (fill k) 54) ++ s)))), .agg (cellsOf (sha ((mix (fill k) 92) ++ (sha ((mix (fill k) 54) ++ s))))).toArray], []⟩) (by kernel_rfl) ?_
    refine St.then_n ?_
    refine wp_ret ?_
    refine bodyPost_ret (v := .agg (cellsOf (sha ((mix (fill k) 92) ++ (sha ((mix (fill k) 54) ++ s))))).toArray) (St.resc rfl _ (by kernel_rfl) _ Tryd.underlying24 rfl 32 rfl (HS57.row 1 rfl) (by first | omega | (simp; omega) | simp)) rfl ?_
    -- end 1: [.row b43 (cellsOf (sha ((mix (fill k) 54) ++ s))), .row b2 (cellsOf (sha ((mix (fill k) 92) ++ (sha ((mix (fill k) 54) ++ s)))))]
    exact ⟨by rw [tag, keyed, if_neg (by omega)]; rfl, HS57.only⟩
end Go.Proofs.YtomalanncdcopaaDoor.Seal
