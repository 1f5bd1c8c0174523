/- The contract of the closure in Tag. -/
import Derived.Test.YtomalanncdcopaaDoorSeal1
import Derived.Test.YtomalanncdcopaaDoorStC
set_option linter.unusedSimpArgs false
set_option linter.unusedVariables false
namespace Go.Proofs.YtomalanncdcopaaDoor.Seal
open Go Go.RowKit Go.Proofs.YtomalanncdcopaaDoor.Mem Go.Proofs.YtomalanncdcopaaDoor.Dig Go.Proofs.YtomalanncdcopaaDoor.St

attribute [simp] sha_length mixTo_length mix_length keyed_length tag_length
def _root_.Go.Proofs.YtomalanncdcopaaDoor.Dig.Stm.ent (p : Nat) (t : List UInt8) : Ent := .any [p] (fun w => Stm w p t) (fun _ _ _ h hc hs _ => Stm.keep h hc (hs p (by simp)))
theorem stm_row {w : World} {p : Nat} (h : Row w p 0 (stmCells (List.replicate 8 0) [] 0)) : Stm w p [] := ⟨List.replicate 8 0, rfl, fun h => absurd rfl h, h⟩

theorem mixTo_next (K : List UInt8) (b : UInt8) (i : Nat) (h : i < K.length) : (mixTo K b i).set i ((mixTo K b i).getD i 0 ^^^ b) = mixTo K b (i + 1) := by
  rw [mixTo, List.getD_eq_getElem?_getD, mixTo_get K b i h, if_neg (by omega)]
  rfl
set_option maxHeartbeats 8000000 in
theorem sealed_any (b : UInt8) (s K : List UInt8) (hK : K.length = 64) (hl : s.length ≤ 1000000) (kb : Nat) (w : World) (hR : Row w kb 0 (cellsOf K)) (hKT : KTab w) :
    Calls Tryd.prog 15 #[.int .u8 (b.toNat : Int), .string (bstr s), .pointer (some ⟨kb, 0, none⟩)] w fun r w' => r = .returned (.agg (cellsOf (sealed K b s)).toArray) ∧ OnlyNew w w' := by
  refine calls_of_wp Tryd.func15 rfl ?_
  refine St.ent0 (⟨#[.int .u8 (b.toNat : Int), .string (bstr s), .pointer (some ⟨kb, 0, none⟩), undef, undef, undef, undef, undef, undef, undef, undef, undef, undef, undef, undef, undef, undef, undef, undef, undef, undef, undef, undef, undef, undef, undef, undef, undef, undef, undef, undef], []⟩) (by kernel_rfl) ?_
  have HS1 : St w w [] [] := St.nil _ _
  refine wp_seq ?_
  refine St.rgn ?_
  refine St.sg rfl (St.g_alloc 24 rfl (cellsOf (List.replicate 32 0)) (by kernel_rfl) HS1) ?_
  rintro _ w3 ⟨b2, rfl, _, HS4⟩
  clear HS1
  refine St.fin (⟨#[.int .u8 (b.toNat : Int), .string (bstr s), .pointer (some ⟨kb, 0, none⟩), undef, undef, .pointer (some ⟨b2, 0, none⟩), undef, undef, undef, undef, undef, undef, undef, undef, undef, undef, undef, undef, undef, undef, undef, undef, undef, undef, undef, undef, undef, undef, undef, undef, undef], []⟩) (by kernel_rfl) ?_
  refine St.then_n ?_
  refine wp_seq ?_
  refine St.rgn ?_
  refine St.sv (.agg (cellsOf K).toArray) rfl (St.e_loads (i := 0) rfl (by kernel_rfl) _ Tryd.underlying34 rfl 64 rfl (hR.keep HS4.chg (by simp)) [] (cellsOf K) [] (by first | with_reducible rfl | simp only [List.append_assoc, List.cons_append, List.nil_append, List.append_nil]) (by first | omega | (simp [hK]; omega) | simp [hK]) (by first | omega | (simp [hK]; omega) | simp [hK])) ?_
  refine St.sg rfl (St.g_alloc 34 rfl (cellsOf (List.replicate 64 0)) (by kernel_rfl) HS4) ?_
  rintro _ w6 ⟨b5, rfl, _, HS7⟩
  clear HS4
  refine St.sg rfl (St.g_stores (i := 0) rfl (by kernel_rfl) (cellsOf K) (by kernel_rfl) (cellsOf_one _) 64 rfl HS7 0 rfl [] (cellsOf (List.replicate 64 0)) [] (by first | with_reducible rfl | simp only [List.append_assoc, List.cons_append, List.nil_append, List.append_nil]) (by first | omega | (simp [hK]; omega) | simp [hK]) (by first | omega | (simp [hK]; omega) | simp [hK]) (by first | omega | (simp [hK]; omega) | simp [hK]) (cellsOf K) (by first | with_reducible rfl | simp only [List.append_assoc, List.cons_append, List.nil_append, List.append_nil])) ?_
  rintro _ w8 ⟨rfl, HS9⟩
  replace HS9 : St w w8 [] [.row b5 (cellsOf K), .row b2 (cellsOf (List.replicate 32 0))] := HS9
  clear HS7
  refine St.fin (⟨#[.int .u8 (b.toNat : Int), .string (bstr s), .pointer (some ⟨kb, 0, none⟩), undef, undef, .pointer (some ⟨b2, 0, none⟩), .pointer (some ⟨b5, 0, none⟩), undef, undef, .agg (cellsOf K).toArray, undef, undef, undef, undef, undef, undef, undef, undef, undef, undef, undef, undef, undef, undef, undef, undef, undef, undef, undef, undef, undef], []⟩) (by kernel_rfl) ?_
  refine St.then_n ?_
  refine wp_seq ?_
  refine wp_seq ?_
  refine St.rgn ?_
  refine St.sv (.int .i64 0) rfl (by kernel_rfl) ?_
  refine St.fin (⟨#[.int .u8 (b.toNat : Int), .string (bstr s), .pointer (some ⟨kb, 0, none⟩), undef, undef, .pointer (some ⟨b2, 0, none⟩), .pointer (some ⟨b5, 0, none⟩), undef, undef, .agg (cellsOf K).toArray, .int .i64 0, undef, undef, undef, undef, undef, undef, undef, undef, undef, undef, undef, undef, undef, undef, undef, undef, undef, undef, undef, undef], []⟩) (by kernel_rfl) ?_
  refine St.then_n ?_
  refine wp_block ?_
  refine St.loopI (fun n a w' => ∃ (i : Nat) (u7 u11 u12 u13 u14 u15 u16 u17 u18 u19 : Value), n = 64 - i ∧ (i ≤ 64) ∧ a = ⟨#[.int .u8 (b.toNat : Int), .string (bstr s), .pointer (some ⟨kb, 0, none⟩), undef, undef, .pointer (some ⟨b2, 0, none⟩), .pointer (some ⟨b5, 0, none⟩), u7, undef, .agg (cellsOf K).toArray, .int .i64 (i : Int), u11, u12, u13, u14, u15, u16, u17, u18, u19, undef, undef, undef, undef, undef, undef, undef, undef, undef, undef, undef], []⟩ ∧ St w w' [] [.row b5 (cellsOf (mixTo K b i)), .row b2 (cellsOf (List.replicate 32 0))]) (64 - 0) ⟨0, _, _, _, _, _, _, _, _, _, _, rfl, (by first | omega | (simp [hK]; omega) | simp [hK]), rfl, HS9⟩ ?_
  rintro _ _ wr0 ⟨i, u7, u11, u12, u13, u14, u15, u16, u17, u18, u19, rfl, hf0_0, rfl, HS10⟩
  clear HS9
  refine wp_seq ?_
  refine St.rgn ?_
  refine St.sv (.bool (decide ((i : Int) < 64))) rfl (by kernel_rfl) ?_
  refine St.fin (⟨#[.int .u8 (b.toNat : Int), .string (bstr s), .pointer (some ⟨kb, 0, none⟩), undef, undef, .pointer (some ⟨b2, 0, none⟩), .pointer (some ⟨b5, 0, none⟩), u7, undef, .agg (cellsOf K).toArray, .int .i64 (i : Int), .bool (decide ((i : Int) < 64)), u12, u13, u14, u15, u16, u17, u18, u19, undef, undef, undef, undef, undef, undef, undef, undef, undef, undef, undef], []⟩) (by kernel_rfl) ?_
  refine St.then_n ?_
  refine wp_seq ?_
  refine wp_cond_split (t := decide ((i : Int) < 64)) rfl (fun hc11 => ?_) (fun hc11 => ?_)
  · skip
    have q12 := of_decide_eq_true hc11
    refine wp_skip ?_
    refine St.then_n ?_
    refine wp_seq ?_
    refine wp_block ?_
    refine wp_seq ?_
    refine St.rgn ?_
    refine St.sv (.int .i64 (i : Int)) rfl (by kernel_rfl) ?_
    refine St.sv (.int .i64 (i : Int)) rfl (by kernel_rfl) ?_
    refine St.fin (⟨#[.int .u8 (b.toNat : Int), .string (bstr s), .pointer (some ⟨kb, 0, none⟩), undef, undef, .pointer (some ⟨b2, 0, none⟩), .pointer (some ⟨b5, 0, none⟩), .int .i64 (i : Int), undef, .agg (cellsOf K).toArray, .int .i64 (i : Int), .bool (decide ((i : Int) < 64)), .int .i64 (i : Int), u13, u14, u15, u16, u17, u18, u19, undef, undef, undef, undef, undef, undef, undef, undef, undef, undef, undef], []⟩) (by kernel_rfl) ?_
    refine St.then_n ?_
    refine St.rgn ?_
    refine St.sv (.int .i64 (i : Int)) rfl (by kernel_rfl) ?_
    refine St.sv (.pointer (some ⟨b5, i, none⟩)) rfl (St.e_ixa (k := .i64) (b := b5) (off := 0) (i := i) rfl Tryd.underlying34 (size := 1) rfl (by kernel_rfl) (by kernel_rfl) (by first | omega | (simp [hK]; omega) | simp [hK]) (by first | rfl | omega)) ?_
    refine St.sv (.int .u8 (((mixTo K b i).getD i 0).toNat : Int)) rfl (St.e_load (i := i) rfl (by kernel_rfl) rfl (HS10.row 0 rfl) (.int .u8 (((mixTo K b i).getD i 0).toNat : Int)) (St.getcell (by first | omega | (simp [hK]; omega) | simp [hK]))) ?_
    refine St.sv (.int .u8 (b.toNat : Int)) rfl (by kernel_rfl) ?_
    refine St.sv (.int .u8 ((((mixTo K b i).getD i 0) ^^^ b).toNat : Int)) rfl (St.e_xor (a := (((mixTo K b i).getD i 0).toNat : Int)) (b := (b.toNat : Int)) rfl (by kernel_rfl) (by kernel_rfl) (St.w8_xor ((mixTo K b i).getD i 0) b)) ?_
    refine St.sv (.pointer (some ⟨b5, i, none⟩)) rfl (St.e_ixa (k := .i64) (b := b5) (off := 0) (i := i) rfl Tryd.underlying34 (size := 1) rfl (by kernel_rfl) (by kernel_rfl) (by first | omega | (simp [hK]; omega) | simp [hK]) (by first | rfl | omega)) ?_
    refine St.sg rfl (St.g_store (i := i) rfl (by kernel_rfl) (.int .u8 ((((mixTo K b i).getD i 0) ^^^ b).toNat : Int)) (by kernel_rfl) rfl rfl HS10 0 rfl (by first | omega | (simp [hK]; omega) | simp [hK]) (cellsOf ((mixTo K b i).set i (((mixTo K b i).getD i 0) ^^^ b))) (St.setcell _ _ _)) ?_
    rintro _ w13 ⟨rfl, HS14⟩
    replace HS14 : St w w13 [] [.row b5 (cellsOf ((mixTo K b i).set i (((mixTo K b i).getD i 0) ^^^ b))), .row b2 (cellsOf (List.replicate 32 0))] := HS14
    clear HS10
    refine St.fin (⟨#[.int .u8 (b.toNat : Int), .string (bstr s), .pointer (some ⟨kb, 0, none⟩), undef, undef, .pointer (some ⟨b2, 0, none⟩), .pointer (some ⟨b5, 0, none⟩), .int .i64 (i : Int), undef, .agg (cellsOf K).toArray, .int .i64 (i : Int), .bool (decide ((i : Int) < 64)), .int .i64 (i : Int), .int .i64 (i : Int), .pointer (some ⟨b5, i, none⟩), .int .u8 (((mixTo K b i).getD i 0).toNat : Int), .int .u8 (b.toNat : Int), .int .u8 ((((mixTo K b i).getD i 0) ^^^ b).toNat : Int), .pointer (some ⟨b5, i, none⟩), u19, undef, undef, undef, undef, undef, undef, undef, undef, undef, undef, undef], []⟩) (by kernel_rfl) ?_
    refine St.inb_n ?_
    refine St.then_n ?_
    refine St.rgn ?_
    refine St.sv (.int .i64 ((i + 1 : Nat) : Int)) rfl (St.e_add (a := (i : Int)) (b := 1) rfl (by kernel_rfl) (by kernel_rfl) (by rw [IntKind.wrap_i64]; omega)) ?_
    refine St.sv (.int .i64 ((i + 1 : Nat) : Int)) rfl (by kernel_rfl) ?_
    refine St.fin (⟨#[.int .u8 (b.toNat : Int), .string (bstr s), .pointer (some ⟨kb, 0, none⟩), undef, undef, .pointer (some ⟨b2, 0, none⟩), .pointer (some ⟨b5, 0, none⟩), .int .i64 (i : Int), undef, .agg (cellsOf K).toArray, .int .i64 ((i + 1 : Nat) : Int), .bool (decide ((i : Int) < 64)), .int .i64 (i : Int), .int .i64 (i : Int), .pointer (some ⟨b5, i, none⟩), .int .u8 (((mixTo K b i).getD i 0).toNat : Int), .int .u8 (b.toNat : Int), .int .u8 ((((mixTo K b i).getD i 0) ^^^ b).toNat : Int), .pointer (some ⟨b5, i, none⟩), .int .i64 ((i + 1 : Nat) : Int), undef, undef, undef, undef, undef, undef, undef, undef, undef, undef, undef], []⟩) (by kernel_rfl) ?_
    refine St.then_n ?_
    rw [mixTo_next K b i (by omega)] at HS14
    refine ⟨_, ?_, (i + 1), _, _, _, _, _, _, _, _, _, _, rfl, ?_, rfl, ?_⟩
    · omega
    · exact (by first | omega | (simp [hK]; omega) | simp [hK])
    · exact HS14
  · skip
    have q15 := of_decide_eq_false hc11
    obtain rfl : i = 64 := by omega
    have HS16 : St w wr0 [] [.row b5 (cellsOf (mixTo K b 64)), .row b2 (cellsOf (List.replicate 32 0))] := HS10; clear HS10
    refine wp_exit ?_
    refine St.then_e ?_
    refine St.then_e ?_
    refine St.inb_h ?_
    refine St.then_n ?_
    refine wp_seq ?_
    refine St.rgn ?_
    refine St.sv (.agg #[.int .u32 0, .int .u32 0, .int .u32 0, .int .u32 0, .int .u32 0, .int .u32 0, .int .u32 0, .int .u32 0, .string (bstr []), .int .i64 0]) rfl (by kernel_rfl) ?_
    refine St.sg rfl (St.g_box 39 _ (.agg #[.int .u32 0, .int .u32 0, .int .u32 0, .int .u32 0, .int .u32 0, .int .u32 0, .int .u32 0, .int .u32 0, .string (bstr []), .int .i64 0]) rfl (by kernel_rfl) ([.int .u32 0, .int .u32 0, .int .u32 0, .int .u32 0, .int .u32 0, .int .u32 0, .int .u32 0, .int .u32 0, .string (bstr []), .int .i64 0]) (by kernel_rfl) HS16) ?_
    rintro _ w18 ⟨b17, rfl, _, HS19⟩
    clear HS16
    refine St.sv (.pointer (some ⟨b17, 0, none⟩)) rfl (by kernel_rfl) ?_
    refine St.fin (⟨#[.int .u8 (b.toNat : Int), .string (bstr s), .pointer (some ⟨kb, 0, none⟩), undef, undef, .pointer (some ⟨b2, 0, none⟩), .pointer (some ⟨b5, 0, none⟩), u7, .pointer (some ⟨b17, 0, none⟩), .agg (cellsOf K).toArray, .int .i64 64, .bool (decide ((64 : Int) < 64)), u12, u13, u14, u15, u16, u17, u18, u19, .agg #[.int .u32 0, .int .u32 0, .int .u32 0, .int .u32 0, .int .u32 0, .int .u32 0, .int .u32 0, .int .u32 0, .string (bstr []), .int .i64 0], .pointer (some ⟨b17, 0, none⟩), undef, undef, undef, undef, undef, undef, undef, undef, undef], []⟩) (by kernel_rfl) ?_
    refine St.then_n ?_
    refine wp_seq ?_
    refine St.rgn ?_
    have HS20 : St w w18 [] [Stm.ent b17 [], .row b5 (cellsOf (mixTo K b 64)), .row b2 (cellsOf (List.replicate 32 0))] := HS19.updp 0 rfl rfl (Chgd.refl _ _) (Stm.ent b17 []) (stm_row (HS19.row 0 rfl)) rfl
    clear HS19
    refine St.sv (.pointer (some ⟨b17, 0, none⟩)) rfl (by kernel_rfl) ?_
    refine St.sv (.slice (some ⟨b5, 0, none⟩) 64 64) rfl (by kernel_rfl) ?_
    have he22 : mixTo K b 64 = mix K b := hK ▸ mixTo_all K b
    have HS21 : St w w18 [] [Stm.ent b17 [], .row b5 (cellsOf (mix K b)), .row b2 (cellsOf (List.replicate 32 0))] := by rw [he22] at HS20; exact HS20
    clear HS20
    refine St.sv (.string (bstr (mix K b))) rfl (St.e_bs (l := mix K b) (n := 64) (cap := 64) rfl Tryd.underlying27 Tryd.underlying5 Tryd.underlying9 (by kernel_rfl) (HS21.row 1 rfl) (by first | omega | (simp [hK]; omega) | simp [hK])) ?_
    refine St.scall rfl (by kernel_rfl) (Dig.write_any b17 [] (mix K b) (by first | omega | (simp [hK]; omega) | simp [hK]) w18 (hKT.keep HS21.chg (by simp)) (HS21.hold _ (List.mem_of_getElem? (i := 0) rfl))) ?_
    rintro _ w23 ⟨rfl, h24, h25⟩; refine ⟨_, rfl, ?_⟩
    have HS26 : St w w23 [] [Stm.ent b17 (mix K b), .row b5 (cellsOf (mix K b)), .row b2 (cellsOf (List.replicate 32 0))] := St.updp HS21 0 rfl rfl h25 (Stm.ent b17 (mix K b)) h24 rfl
    clear HS21
    refine St.fin (⟨#[.int .u8 (b.toNat : Int), .string (bstr s), .pointer (some ⟨kb, 0, none⟩), undef, undef, .pointer (some ⟨b2, 0, none⟩), .pointer (some ⟨b5, 0, none⟩), u7, .pointer (some ⟨b17, 0, none⟩), .agg (cellsOf K).toArray, .int .i64 64, .bool (decide ((64 : Int) < 64)), u12, u13, u14, u15, u16, u17, u18, u19, .agg #[.int .u32 0, .int .u32 0, .int .u32 0, .int .u32 0, .int .u32 0, .int .u32 0, .int .u32 0, .int .u32 0, .string (bstr []), .int .i64 0], .pointer (some ⟨b17, 0, none⟩), .pointer (some ⟨b17, 0, none⟩), .slice (some ⟨b5, 0, none⟩) 64 64, .string (bstr (mix K b)), .tuple #[], undef, undef, undef, undef, undef], []⟩) (by kernel_rfl) ?_
    refine St.then_n ?_
    refine wp_seq ?_
    refine St.rgn ?_
    refine St.sv (.pointer (some ⟨b17, 0, none⟩)) rfl (by kernel_rfl) ?_
    refine St.sv (.string (bstr s)) rfl (by kernel_rfl) ?_
    refine St.scall rfl (by kernel_rfl) (Dig.write_any b17 (mix K b) s (by first | omega | (simp [hK]; omega) | simp [hK]) w23 (hKT.keep HS26.chg (by simp)) (HS26.hold _ (List.mem_of_getElem? (i := 0) rfl))) ?_
    rintro _ w27 ⟨rfl, h28, h29⟩; refine ⟨_, rfl, ?_⟩
    have HS30 : St w w27 [] [Stm.ent b17 ((mix K b) ++ s), .row b5 (cellsOf (mix K b)), .row b2 (cellsOf (List.replicate 32 0))] := St.updp HS26 0 rfl rfl h29 (Stm.ent b17 ((mix K b) ++ s)) h28 rfl
    clear HS26
    refine St.fin (⟨#[.int .u8 (b.toNat : Int), .string (bstr s), .pointer (some ⟨kb, 0, none⟩), undef, undef, .pointer (some ⟨b2, 0, none⟩), .pointer (some ⟨b5, 0, none⟩), u7, .pointer (some ⟨b17, 0, none⟩), .agg (cellsOf K).toArray, .int .i64 64, .bool (decide ((64 : Int) < 64)), u12, u13, u14, u15, u16, u17, u18, u19, .agg #[.int .u32 0, .int .u32 0, .int .u32 0, .int .u32 0, .int .u32 0, .int .u32 0, .int .u32 0, .int .u32 0, .string (bstr []), .int .i64 0], .pointer (some ⟨b17, 0, none⟩), .pointer (some ⟨b17, 0, none⟩), .slice (some ⟨b5, 0, none⟩) 64 64, .string (bstr (mix K b)), .tuple #[], .pointer (some ⟨b17, 0, none⟩), .string (bstr s), .tuple #[], undef, undef], []⟩) (by kernel_rfl) ?_
    refine St.then_n ?_
    refine wp_seq ?_
    refine St.rgn ?_
    refine St.sv (.pointer (some ⟨b17, 0, none⟩)) rfl (by kernel_rfl) ?_
    refine St.scall rfl (by kernel_rfl) (Dig.sum_any b17 ((mix K b) ++ s) (by first | omega | (simp [hK]; omega) | simp [hK]) w27 (hKT.keep HS30.chg (by simp)) (HS30.hold _ (List.mem_of_getElem? (i := 0) rfl))) ?_
    rintro _ w31 ⟨rfl, h32⟩; refine ⟨_, rfl, ?_⟩
    have HS33 := HS30.quiet h32
    clear HS30
    refine St.sg rfl (St.g_stores (i := 0) rfl (by kernel_rfl) (cellsOf (sha ((mix K b) ++ s))) (by kernel_rfl) (cellsOf_one _) 32 rfl HS33 2 rfl [] (cellsOf (List.replicate 32 0)) [] (by first | with_reducible rfl | simp only [List.append_assoc, List.cons_append, List.nil_append, List.append_nil]) (by first | omega | (simp [hK]; omega) | simp [hK]) (by first | omega | (simp [hK]; omega) | simp [hK]) (by first | omega | (simp [hK]; omega) | simp [hK]) (cellsOf (sha ((mix K b) ++ s))) (by first | with_reducible rfl | simp only [List.append_assoc, List.cons_append, List.nil_append, List.append_nil])) ?_
    rintro _ w34 ⟨rfl, HS35⟩
    replace HS35 : St w w34 [] [Stm.ent b17 ((mix K b) ++ s), .row b5 (cellsOf (mix K b)), .row b2 (cellsOf (sha ((mix K b) ++ s)))] := HS35
    clear HS33
    refine St.fin (⟨#[.int .u8 (b.toNat : Int), .string (bstr s), .pointer (some ⟨kb, 0, none⟩), undef, undef, .pointer (some ⟨b2, 0, none⟩), .pointer (some ⟨b5, 0, none⟩), u7, .pointer (some ⟨b17, 0, none⟩), .agg (cellsOf K).toArray, .int .i64 64, .bool (decide ((64 : Int) < 64)), u12, u13, u14, u15, u16, u17, u18, u19, .agg #[.int .u32 0, .int .u32 0, .int .u32 0, .int .u32 0, .int .u32 0, .int .u32 0, .int .u32 0, .int .u32 0, .string (bstr []), .int .i64 0], .pointer (some ⟨b17, 0, none⟩), .pointer (some ⟨b17, 0, none⟩), .slice (some ⟨b5, 0, none⟩) 64 64, .string (bstr (mix K b)), .tuple #[], .pointer (some ⟨b17, 0, none⟩), .string (bstr s), .tuple #[], .pointer (some ⟨b17, 0, none⟩), .agg (cellsOf (sha ((mix K b) ++ s))).toArray], []⟩) (by kernel_rfl) ?_
    refine St.then_n ?_
    refine wp_ret ?_
    refine bodyPost_ret (v := .agg (cellsOf (sha ((mix K b) ++ s))).toArray) (St.resc rfl _ (by kernel_rfl) _ Tryd.underlying24 rfl 32 rfl (HS35.row 2 rfl) (by first | omega | (simp [hK]; omega) | simp [hK])) rfl ?_
    -- end 0: [Stm.ent b17 ((mix K b) ++ s), .row b5 (cellsOf (mix K b)), .row b2 (cellsOf (sha ((mix K b) ++ s)))]
    exact ⟨rfl, HS35.only⟩
end Go.Proofs.YtomalanncdcopaaDoor.Seal
