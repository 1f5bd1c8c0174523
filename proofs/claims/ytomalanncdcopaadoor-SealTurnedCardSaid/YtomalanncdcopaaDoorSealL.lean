/- The walks of the statements of layer 3. -/
import Derived.Test.YtomalanncdcopaaDoorSeal3
set_option linter.unusedSimpArgs false
set_option linter.unusedVariables false
namespace Go.Proofs.YtomalanncdcopaaDoor.Seal
open Go Go.RowKit Go.Proofs.YtomalanncdcopaaDoor.Mem Go.Proofs.YtomalanncdcopaaDoor.Dig Go.Proofs.YtomalanncdcopaaDoor.St

theorem tag_quick : tag [107, 101, 121] [84, 104, 101, 32, 113, 117, 105, 99, 107, 32, 98, 114, 111, 119, 110, 32, 102, 111, 120, 32, 106, 117, 109, 112, 115, 32, 111, 118, 101, 114, 32, 116, 104, 101, 32, 108, 97, 122, 121, 32, 100, 111, 103] =
    [247, 188, 131, 244, 48, 83, 132, 36, 177, 50, 152, 230, 170, 111, 177, 67, 239, 77, 89, 161, 73, 70, 23, 89, 151, 71, 157, 188, 45, 26, 60, 216] := by kernel_rfl
set_option maxHeartbeats 8000000 in
theorem shown_any (w : World) (hKT : KTab w) :
    Calls Tryd.prog 7 #[] w fun r w' => r = .returned (.bool true) ∧ OnlyNew w w' := by
  refine calls_of_wp Tryd.func7 rfl ?_
  refine St.ent0 (⟨#[undef, undef, undef, undef, undef, undef, undef, undef, undef, undef, undef, undef, undef, undef, undef, undef, undef, undef, undef, undef, undef, undef, undef, undef, undef, undef], []⟩) (by kernel_rfl) ?_
  have HS1 : St w w [] [] := St.nil _ _
  refine wp_seq ?_
  refine St.rgn ?_
  refine St.sv (.bool false) rfl (by kernel_rfl) ?_
  refine St.fin (⟨#[.bool false, undef, undef, undef, undef, undef, undef, undef, undef, undef, undef, undef, undef, undef, undef, undef, undef, undef, undef, undef, undef, undef, undef, undef, undef, undef], []⟩) (by kernel_rfl) ?_
  refine St.then_n ?_
  refine wp_seq ?_
  refine St.rgn ?_
  refine St.scall rfl (by kernel_rfl) (Seal.tag_any [107, 101, 121] [84, 104, 101, 32, 113, 117, 105, 99, 107, 32, 98, 114, 111, 119, 110, 32, 102, 111, 120, 32, 106, 117, 109, 112, 115, 32, 111, 118, 101, 114, 32, 116, 104, 101, 32, 108, 97, 122, 121, 32, 100, 111, 103] (by first | omega | (simp; omega) | simp) (by first | omega | (simp; omega) | simp) w (hKT.keep HS1.chg (by simp))) ?_
  rintro _ w2 ⟨rfl, h3⟩; refine ⟨_, rfl, ?_⟩
  have HS4 := HS1.quiet h3
  clear HS1
  refine St.sg rfl (St.g_alloc 24 rfl (cellsOf (List.replicate 32 0)) (by kernel_rfl) HS4) ?_
  rintro _ w6 ⟨b5, rfl, _, HS7⟩
  clear HS4
  refine St.sg rfl (St.g_stores (i := 0) rfl (by kernel_rfl) (cellsOf (tag [107, 101, 121] [84, 104, 101, 32, 113, 117, 105, 99, 107, 32, 98, 114, 111, 119, 110, 32, 102, 111, 120, 32, 106, 117, 109, 112, 115, 32, 111, 118, 101, 114, 32, 116, 104, 101, 32, 108, 97, 122, 121, 32, 100, 111, 103])) (by kernel_rfl) (cellsOf_one _) 32 rfl HS7 0 rfl [] (cellsOf (List.replicate 32 0)) [] (by first | with_reducible rfl | simp only [List.append_assoc, List.cons_append, List.nil_append, List.append_nil]) (by first | omega | (simp; omega) | simp) (by first | omega | (simp; omega) | simp) (by first | omega | (simp; omega) | simp) (cellsOf (tag [107, 101, 121] [84, 104, 101, 32, 113, 117, 105, 99, 107, 32, 98, 114, 111, 119, 110, 32, 102, 111, 120, 32, 106, 117, 109, 112, 115, 32, 111, 118, 101, 114, 32, 116, 104, 101, 32, 108, 97, 122, 121, 32, 100, 111, 103])) (by first | with_reducible rfl | simp only [List.append_assoc, List.cons_append, List.nil_append, List.append_nil])) ?_
  rintro _ w8 ⟨rfl, HS9⟩
  replace HS9 : St w w8 [] [.row b5 (cellsOf (tag [107, 101, 121] [84, 104, 101, 32, 113, 117, 105, 99, 107, 32, 98, 114, 111, 119, 110, 32, 102, 111, 120, 32, 106, 117, 109, 112, 115, 32, 111, 118, 101, 114, 32, 116, 104, 101, 32, 108, 97, 122, 121, 32, 100, 111, 103]))] := HS9
  clear HS7
  refine St.fin (⟨#[.bool false, .pointer (some ⟨b5, 0, none⟩), .agg (cellsOf (tag [107, 101, 121] [84, 104, 101, 32, 113, 117, 105, 99, 107, 32, 98, 114, 111, 119, 110, 32, 102, 111, 120, 32, 106, 117, 109, 112, 115, 32, 111, 118, 101, 114, 32, 116, 104, 101, 32, 108, 97, 122, 121, 32, 100, 111, 103])).toArray, undef, undef, undef, undef, undef, undef, undef, undef, undef, undef, undef, undef, undef, undef, undef, undef, undef, undef, undef, undef, undef, undef, undef], []⟩) (by kernel_rfl) ?_
  refine St.then_n ?_
  refine wp_seq ?_
  refine St.rgn ?_
  have HS10 : St w w8 [] [.row b5 (cellsOf [247, 188, 131, 244, 48, 83, 132, 36, 177, 50, 152, 230, 170, 111, 177, 67, 239, 77, 89, 161, 73, 70, 23, 89, 151, 71, 157, 188, 45, 26, 60, 216])] := St.reseg HS9 0 rfl (congrArg cellsOf tag_quick)
  clear HS9
  refine St.sv (.pointer (some ⟨b5, 0, none⟩)) rfl (St.e_ixa (k := .i64) (b := b5) (off := 0) (i := 0) rfl Tryd.underlying24 (size := 1) rfl (by kernel_rfl) (by kernel_rfl) (by first | omega | (simp; omega) | simp) (by first | rfl | omega)) ?_
  refine St.sv (.int .u8 247) rfl (St.e_load (i := 0) rfl (by kernel_rfl) rfl (HS10.row 0 rfl) (.int .u8 247) (by kernel_rfl)) ?_
  refine St.sv (.bool true) rfl (by kernel_rfl) ?_
  refine St.sv (.bool true) rfl (by kernel_rfl) ?_
  refine St.svq (.pointer (some ⟨b5, 1, none⟩)) (by kernel_rfl) (St.e_ixa (k := .i64) (b := b5) (off := 0) (i := 1) rfl Tryd.underlying24 (size := 1) rfl (by kernel_rfl) (by kernel_rfl) (by first | omega | (simp; omega) | simp) (by first | rfl | omega)) ?_
  refine St.svq (.int .u8 188) (by kernel_rfl) (St.e_load (i := 1) rfl (by kernel_rfl) rfl (HS10.row 0 rfl) (.int .u8 188) (by kernel_rfl)) ?_
  refine St.svq (.bool true) (by kernel_rfl) (by kernel_rfl) ?_
  refine St.sv (.bool true) rfl (by kernel_rfl) ?_
  refine St.sv (.bool true) rfl (by kernel_rfl) ?_
  refine St.svq (.pointer (some ⟨b5, 2, none⟩)) (by kernel_rfl) (St.e_ixa (k := .i64) (b := b5) (off := 0) (i := 2) rfl Tryd.underlying24 (size := 1) rfl (by kernel_rfl) (by kernel_rfl) (by first | omega | (simp; omega) | simp) (by first | rfl | omega)) ?_
  refine St.svq (.int .u8 131) (by kernel_rfl) (St.e_load (i := 2) rfl (by kernel_rfl) rfl (HS10.row 0 rfl) (.int .u8 131) (by kernel_rfl)) ?_
  refine St.svq (.bool true) (by kernel_rfl) (by kernel_rfl) ?_
  refine St.sv (.bool true) rfl (by kernel_rfl) ?_
  refine St.sv (.bool true) rfl (by kernel_rfl) ?_
  refine St.svq (.pointer (some ⟨b5, 3, none⟩)) (by kernel_rfl) (St.e_ixa (k := .i64) (b := b5) (off := 0) (i := 3) rfl Tryd.underlying24 (size := 1) rfl (by kernel_rfl) (by kernel_rfl) (by first | omega | (simp; omega) | simp) (by first | rfl | omega)) ?_
  refine St.svq (.int .u8 244) (by kernel_rfl) (St.e_load (i := 3) rfl (by kernel_rfl) rfl (HS10.row 0 rfl) (.int .u8 244) (by kernel_rfl)) ?_
  refine St.svq (.bool true) (by kernel_rfl) (by kernel_rfl) ?_
  refine St.sv (.bool true) rfl (by kernel_rfl) ?_
  refine St.sv (.bool true) rfl (by kernel_rfl) ?_
  refine St.svq (.pointer (some ⟨b5, 31, none⟩)) (by kernel_rfl) (St.e_ixa (k := .i64) (b := b5) (off := 0) (i := 31) rfl Tryd.underlying24 (size := 1) rfl (by kernel_rfl) (by kernel_rfl) (by first | omega | (simp; omega) | simp) (by first | rfl | omega)) ?_
  refine St.svq (.int .u8 216) (by kernel_rfl) (St.e_load (i := 31) rfl (by kernel_rfl) rfl (HS10.row 0 rfl) (.int .u8 216) (by kernel_rfl)) ?_
  refine St.svq (.bool true) (by kernel_rfl) (by kernel_rfl) ?_
  refine St.sv (.bool true) rfl (by kernel_rfl) ?_
  refine St.sv (.bool true) rfl (by kernel_rfl) ?_
  refine St.fin (⟨#[.bool true, .pointer (some ⟨b5, 0, none⟩), .agg (cellsOf (tag [107, 101, 121] [84, 104, 101, 32, 113, 117, 105, 99, 107, 32, 98, 114, 111, 119, 110, 32, 102, 111, 120, 32, 106, 117, 109, 112, 115, 32, 111, 118, 101, 114, 32, 116, 104, 101, 32, 108, 97, 122, 121, 32, 100, 111, 103])).toArray, .pointer (some ⟨b5, 0, none⟩), .int .u8 247, .bool true, .bool true, .pointer (some ⟨b5, 1, none⟩), .int .u8 188, .bool true, .bool true, .bool true, .pointer (some ⟨b5, 2, none⟩), .int .u8 131, .bool true, .bool true, .bool true, .pointer (some ⟨b5, 3, none⟩), .int .u8 244, .bool true, .bool true, .bool true, .pointer (some ⟨b5, 31, none⟩), .int .u8 216, .bool true, .bool true], []⟩) (by kernel_rfl) ?_
  refine St.then_n ?_
  refine wp_ret ?_
  refine bodyPost_ret (v := .bool true) (by kernel_rfl) rfl ?_
  -- end 0: [.row b5 (cellsOf [247, 188, 131, 244, 48, 83, 132, 36, 177, 50, 152, 230, 170, 111, 177, 67, 239, 77, 89, 161, 73, 70, 23, 89, 151, 71, 157, 188, 45, 26, 60, 216])]
  exact ⟨rfl, HS10.only⟩
set_option maxHeartbeats 8000000 in
theorem tags_law (k s p h : List UInt8) (hp : p.length = 32) (hh : h.length = 32) (hk : k.length ≤ 140737488351232) (hs : s.length ≤ 140737488351232) (w : World) (hKT : KTab w) :
    Calls Tryd.prog 5 #[.string (bstr k), .string (bstr s), .agg (cellsOf p).toArray, .agg (cellsOf h).toArray] w fun r w' => r = .returned (.bool true) ∧ OnlyNew w w' := by
  refine calls_of_wp Tryd.func5 rfl ?_
  refine St.ent0 (⟨#[.string (bstr k), .string (bstr s), .agg (cellsOf p).toArray, .agg (cellsOf h).toArray, undef, undef, undef, undef, undef, undef, undef, undef, undef, undef, undef, undef, undef, undef, undef, undef, undef, undef, undef, undef, undef, undef, undef, undef, undef, undef, undef, undef, undef, undef, undef, undef, undef, undef, undef, undef, undef, undef, undef, undef, undef, undef, undef, undef, undef, undef, undef, undef, undef, undef, undef, undef, undef, undef, undef, undef, undef, undef, undef, undef, undef, undef, undef, undef, undef, undef], []⟩) (by kernel_rfl) ?_
  have HS1 : St w w [] [] := St.nil _ _
  refine wp_seq ?_
  refine St.rgn ?_
  refine St.sg rfl (St.g_box 24 _ (.agg (cellsOf p).toArray) rfl (by kernel_rfl) (cellsOf p) (by kernel_rfl) HS1) ?_
  rintro _ w3 ⟨b2, rfl, _, HS4⟩
  clear HS1
  refine St.sg rfl (St.g_box 24 _ (.agg (cellsOf h).toArray) rfl (by kernel_rfl) (cellsOf h) (by kernel_rfl) HS4) ?_
  rintro _ w6 ⟨b5, rfl, _, HS7⟩
  clear HS4
  refine St.sv (.bool false) rfl (by kernel_rfl) ?_
  refine St.fin (⟨#[.string (bstr k), .string (bstr s), .agg (cellsOf p).toArray, .agg (cellsOf h).toArray, undef, undef, .pointer (some ⟨b2, 0, none⟩), .pointer (some ⟨b5, 0, none⟩), .bool false, undef, undef, undef, undef, undef, undef, undef, undef, undef, undef, undef, undef, undef, undef, undef, undef, undef, undef, undef, undef, undef, undef, undef, undef, undef, undef, undef, undef, undef, undef, undef, undef, undef, undef, undef, undef, undef, undef, undef, undef, undef, undef, undef, undef, undef, undef, undef, undef, undef, undef, undef, undef, undef, undef, undef, undef, undef, undef, undef, undef, undef], []⟩) (by kernel_rfl) ?_
  refine St.then_n ?_
  refine wp_seq ?_
  refine wp_seq ?_
  cases hg8 : decide ((k.length : Int) > 300)
  · skip
    have q9 := of_decide_eq_false hg8
    cases hg10 : decide ((s.length : Int) > 600)
    · skip
      have q11 := of_decide_eq_false hg10
      refine St.rgn ?_
      refine St.sv (.string (bstr k)) rfl (by kernel_rfl) ?_
      refine St.sv (.int .i64 (k.length : Int)) rfl (St.e_len (l := k) 9 rfl Tryd.underlying9 (by kernel_rfl)) ?_
      refine St.sv (.bool false) rfl (St.vb (by kernel_rfl) hg8) ?_
      refine St.sv (.bool false) rfl (by kernel_rfl) ?_
      refine St.svq (.string (bstr s)) (by kernel_rfl) (by kernel_rfl) ?_
      refine St.svq (.int .i64 (s.length : Int)) (by kernel_rfl) (St.e_len (l := s) 9 rfl Tryd.underlying9 (by kernel_rfl)) ?_
      refine St.svq (.bool false) (by kernel_rfl) (St.vb (by kernel_rfl) hg10) ?_
      refine St.sv (.bool false) rfl (by kernel_rfl) ?_
      refine St.sv (.bool false) rfl (by kernel_rfl) ?_
      refine St.scallq (by kernel_rfl) (by kernel_rfl) (Seal.shown_any w6 (hKT.keep HS7.chg (by simp))) ?_
      rintro _ w12 ⟨rfl, h13⟩; refine ⟨_, rfl, ?_⟩
      have HS14 := HS7.quiet h13
      clear HS7
      refine St.svq (.bool false) (by kernel_rfl) (by kernel_rfl) ?_
      refine St.sv (.bool false) rfl (by kernel_rfl) ?_
      refine St.fin (⟨#[.string (bstr k), .string (bstr s), .agg (cellsOf p).toArray, .agg (cellsOf h).toArray, undef, undef, .pointer (some ⟨b2, 0, none⟩), .pointer (some ⟨b5, 0, none⟩), .bool false, undef, undef, .string (bstr k), .int .i64 (k.length : Int), .bool false, .bool false, .string (bstr s), .int .i64 (s.length : Int), .bool false, .bool false, .bool false, .bool true, .bool false, .bool false, undef, undef, undef, undef, undef, undef, undef, undef, undef, undef, undef, undef, undef, undef, undef, undef, undef, undef, undef, undef, undef, undef, undef, undef, undef, undef, undef, undef, undef, undef, undef, undef, undef, undef, undef, undef, undef, undef, undef, undef, undef, undef, undef, undef, undef, undef, undef], []⟩) (by kernel_rfl) ?_
      refine St.then_n ?_
      refine wp_cond_false rfl ?_
      refine wp_skip ?_
      refine St.then_n ?_
      refine wp_seq ?_
      refine St.rgn ?_
      refine St.sv (.string (bstr k)) rfl (by kernel_rfl) ?_
      refine St.sv (.string (bstr s)) rfl (by kernel_rfl) ?_
      refine St.scall rfl (by kernel_rfl) (Seal.reftag_any k s (by first | omega | (simp [hp, hh]; omega) | simp [hp, hh]) (by first | omega | (simp [hp, hh]; omega) | simp [hp, hh]) w12) ?_
      rintro _ w15 ⟨rfl, h16⟩; refine ⟨_, rfl, ?_⟩
      have HS17 := HS14.quiet h16
      clear HS14
      refine St.sg rfl (St.g_alloc 24 rfl (cellsOf (List.replicate 32 0)) (by kernel_rfl) HS17) ?_
      rintro _ w19 ⟨b18, rfl, _, HS20⟩
      clear HS17
      refine St.sg rfl (St.g_stores (i := 0) rfl (by kernel_rfl) (cellsOf (tag k s)) (by kernel_rfl) (cellsOf_one _) 32 rfl HS20 0 rfl [] (cellsOf (List.replicate 32 0)) [] (by first | with_reducible rfl | simp only [List.append_assoc, List.cons_append, List.nil_append, List.append_nil]) (by first | omega | (simp [hp, hh]; omega) | simp [hp, hh]) (by first | omega | (simp [hp, hh]; omega) | simp [hp, hh]) (by first | omega | (simp [hp, hh]; omega) | simp [hp, hh]) (cellsOf (tag k s)) (by first | with_reducible rfl | simp only [List.append_assoc, List.cons_append, List.nil_append, List.append_nil])) ?_
      rintro _ w21 ⟨rfl, HS22⟩
      replace HS22 : St w w21 [] [.row b18 (cellsOf (tag k s)), .row b5 (cellsOf h), .row b2 (cellsOf p)] := HS22
      clear HS20
      refine St.fin (⟨#[.string (bstr k), .string (bstr s), .agg (cellsOf p).toArray, .agg (cellsOf h).toArray, undef, undef, .pointer (some ⟨b2, 0, none⟩), .pointer (some ⟨b5, 0, none⟩), .bool false, .pointer (some ⟨b18, 0, none⟩), undef, .string (bstr k), .int .i64 (k.length : Int), .bool false, .bool false, .string (bstr s), .int .i64 (s.length : Int), .bool false, .bool false, .bool false, .bool true, .bool false, .bool false, undef, .string (bstr k), .string (bstr s), .agg (cellsOf (tag k s)).toArray, undef, undef, undef, undef, undef, undef, undef, undef, undef, undef, undef, undef, undef, undef, undef, undef, undef, undef, undef, undef, undef, undef, undef, undef, undef, undef, undef, undef, undef, undef, undef, undef, undef, undef, undef, undef, undef, undef, undef, undef, undef, undef, undef], []⟩) (by kernel_rfl) ?_
      refine St.then_n ?_
      refine wp_seq ?_
      refine St.rgn ?_
      refine St.sv (.agg (cellsOf p).toArray) rfl (St.e_loads (i := 0) rfl (by kernel_rfl) _ Tryd.underlying24 rfl 32 rfl (HS22.row 2 rfl) [] (cellsOf p) [] (by first | with_reducible rfl | simp only [List.append_assoc, List.cons_append, List.nil_append, List.append_nil]) (by first | omega | (simp [hp, hh]; omega) | simp [hp, hh]) (by first | omega | (simp [hp, hh]; omega) | simp [hp, hh])) ?_
      refine St.scall rfl (by kernel_rfl) (Seal.refof_any p (by first | omega | (simp [hp, hh]; omega) | simp [hp, hh]) w21) ?_
      rintro _ w23 ⟨rfl, h24⟩; refine ⟨_, rfl, ?_⟩
      have HS25 := HS22.quiet h24
      clear HS22
      refine St.sg rfl (St.g_alloc 24 rfl (cellsOf (List.replicate 32 0)) (by kernel_rfl) HS25) ?_
      rintro _ w27 ⟨b26, rfl, _, HS28⟩
      clear HS25
      refine St.sg rfl (St.g_stores (i := 0) rfl (by kernel_rfl) (cellsOf (sha p)) (by kernel_rfl) (cellsOf_one _) 32 rfl HS28 0 rfl [] (cellsOf (List.replicate 32 0)) [] (by first | with_reducible rfl | simp only [List.append_assoc, List.cons_append, List.nil_append, List.append_nil]) (by first | omega | (simp [hp, hh]; omega) | simp [hp, hh]) (by first | omega | (simp [hp, hh]; omega) | simp [hp, hh]) (by first | omega | (simp [hp, hh]; omega) | simp [hp, hh]) (cellsOf (sha p)) (by first | with_reducible rfl | simp only [List.append_assoc, List.cons_append, List.nil_append, List.append_nil])) ?_
      rintro _ w29 ⟨rfl, HS30⟩
      replace HS30 : St w w29 [] [.row b26 (cellsOf (sha p)), .row b18 (cellsOf (tag k s)), .row b5 (cellsOf h), .row b2 (cellsOf p)] := HS30
      clear HS28
      refine St.fin (⟨#[.string (bstr k), .string (bstr s), .agg (cellsOf p).toArray, .agg (cellsOf h).toArray, undef, undef, .pointer (some ⟨b2, 0, none⟩), .pointer (some ⟨b5, 0, none⟩), .bool false, .pointer (some ⟨b18, 0, none⟩), .pointer (some ⟨b26, 0, none⟩), .string (bstr k), .int .i64 (k.length : Int), .bool false, .bool false, .string (bstr s), .int .i64 (s.length : Int), .bool false, .bool false, .bool false, .bool true, .bool false, .bool false, undef, .string (bstr k), .string (bstr s), .agg (cellsOf (tag k s)).toArray, .agg (cellsOf p).toArray, .agg (cellsOf (sha p)).toArray, undef, undef, undef, undef, undef, undef, undef, undef, undef, undef, undef, undef, undef, undef, undef, undef, undef, undef, undef, undef, undef, undef, undef, undef, undef, undef, undef, undef, undef, undef, undef, undef, undef, undef, undef, undef, undef, undef, undef, undef, undef], []⟩) (by kernel_rfl) ?_
      refine St.then_n ?_
      refine wp_seq ?_
      refine Lin2.region_lin [0, 0, 3, 0, 15, 31, 63, 63, 63, 511, 1023, 2047, 4095, 4095, 4095, 32767, 4095, 4095, 200703, 524287, 1048575, 2097151, 4194303, 8388607, 4194303, 33554431, 67108863, 134217727, 268435455, 268435455, 1073741823, 2147483647, 4294967295, 8589934591, 8589934591, 34359738367, 8589934591, 8589934591, 214748364799, 549755813887, 1099511627775, 2199023255551] [] [] (fun _ => True) (St.StK w [] [[.row b26 (cellsOf (sha p)), .row b18 (cellsOf (tag k s)), .row b5 (cellsOf h), .row b2 (cellsOf p), (.big w29.heap.size)]]) St.StK.quiet 70 (by kernel_rfl) rfl (by kernel_rfl) HS30.big.drew ?_
      refine Lin2.walk_pure (.string (bstr k)) (by kernel_rfl) (by kernel_rfl) (by kernel_rfl) (fun w1 => (by kernel_rfl)) ?_; intro S' hS'; subst hS'
      refine Lin2.walk_pure (.string (bstr s)) (by kernel_rfl) (by kernel_rfl) (by kernel_rfl) (fun w1 => (by kernel_rfl)) ?_; intro S' hS'; subst hS'
      refine St.walk_callS [] (.agg (cellsOf (tag k s)).toArray) 0 0 (by kernel_rfl) (by kernel_rfl) (by kernel_rfl) (by kernel_rfl) (fun _ => by kernel_rfl) (by intro f w1 k1 hF _ h1 h2 hI; obtain rfl : k1 = 0 := (by omega); have HS : St w w1 [] [.row b26 (cellsOf (sha p)), .row b18 (cellsOf (tag k s)), .row b5 (cellsOf h), .row b2 (cellsOf p), (.big w29.heap.size)] := hI; refine St.g_call (by kernel_rfl) (Seal.tag_any k s (by first | omega | (simp [hp, hh]; omega) | simp [hp, hh]) (by first | omega | (simp [hp, hh]; omega) | simp [hp, hh]) w1 (hKT.keep HS.chg (by simp))) ?_; rintro _ w33 ⟨rfl, h34⟩; exact ⟨_, rfl, rfl, h34⟩) ?_; intro S' hS'; subst hS'
      refine Lin2.walk_read (.agg (cellsOf (tag k s)).toArray) 0 0 (by kernel_rfl) (by kernel_rfl) (by kernel_rfl) (by kernel_rfl) (by kernel_rfl) (by intro w1 k1 _ h1 h2 hI; obtain rfl : k1 = 0 := (by omega); have HS : St w w1 [] [.row b26 (cellsOf (sha p)), .row b18 (cellsOf (tag k s)), .row b5 (cellsOf h), .row b2 (cellsOf p), (.big w29.heap.size)] := hI; exact (St.e_loads (i := 0) rfl (by kernel_rfl) _ Tryd.underlying24 rfl 32 rfl (HS.row 1 rfl) [] (cellsOf (tag k s)) [] (by first | with_reducible rfl | simp only [List.append_assoc, List.cons_append, List.nil_append, List.append_nil]) (by first | omega | (simp [hp, hh]; omega) | simp [hp, hh]) (by first | omega | (simp [hp, hh]; omega) | simp [hp, hh]))) ?_; intro S' hS'; subst hS'
      refine Lin2.walk_pure (.bool true) (by kernel_rfl) (by kernel_rfl) (by kernel_rfl) (fun w1 => (St.vb (St.e_aeq (l := tag k s) (m := tag k s) rfl Tryd.underlying24 Tryd.underlying5 (fun _ => rfl) (by kernel_rfl) (by kernel_rfl) (by kernel_rfl) (by first | omega | (simp [hp, hh]; omega) | simp [hp, hh]) (by first | omega | (simp [hp, hh]; omega) | simp [hp, hh])) (beq_self_eq_true _))) ?_; intro S' hS'; subst hS'
      refine Lin2.walk_pure (.bool true) (by kernel_rfl) (by kernel_rfl) (by kernel_rfl) (fun w1 => (by kernel_rfl)) ?_; intro S' hS'; subst hS'
      refine Lin2.walk_pure (.string (bstr k)) (by kernel_rfl) (by kernel_rfl) (by kernel_rfl) (fun w1 => (by kernel_rfl)) ?_; intro S' hS'; subst hS'
      refine Lin2.walk_pure (.string (bstr s)) (by kernel_rfl) (by kernel_rfl) (by kernel_rfl) (fun w1 => (by kernel_rfl)) ?_; intro S' hS'; subst hS'
      refine Lin2.walk_read (.agg (cellsOf (tag k s)).toArray) 0 0 (by kernel_rfl) (by kernel_rfl) (by kernel_rfl) (by kernel_rfl) (by kernel_rfl) (by intro w1 k1 _ h1 h2 hI; obtain rfl : k1 = 0 := (by omega); have HS : St w w1 [] [.row b26 (cellsOf (sha p)), .row b18 (cellsOf (tag k s)), .row b5 (cellsOf h), .row b2 (cellsOf p), (.big w29.heap.size)] := hI; exact (St.e_loads (i := 0) rfl (by kernel_rfl) _ Tryd.underlying24 rfl 32 rfl (HS.row 1 rfl) [] (cellsOf (tag k s)) [] (by first | with_reducible rfl | simp only [List.append_assoc, List.cons_append, List.nil_append, List.append_nil]) (by first | omega | (simp [hp, hh]; omega) | simp [hp, hh]) (by first | omega | (simp [hp, hh]; omega) | simp [hp, hh]))) ?_; intro S' hS'; subst hS'
      refine St.walk_callS [] (.bool true) 0 0 (by kernel_rfl) (by kernel_rfl) (by kernel_rfl) (by kernel_rfl) (fun _ => by kernel_rfl) (by intro f w1 k1 hF _ h1 h2 hI; obtain rfl : k1 = 0 := (by omega); have HS : St w w1 [] [.row b26 (cellsOf (sha p)), .row b18 (cellsOf (tag k s)), .row b5 (cellsOf h), .row b2 (cellsOf p), (.big w29.heap.size)] := hI; refine St.g_call (by kernel_rfl) (Seal.right_any k s (tag k s) (by first | omega | (simp [hp, hh]; omega) | simp [hp, hh]) (by first | omega | (simp [hp, hh]; omega) | simp [hp, hh]) (by first | omega | (simp [hp, hh]; omega) | simp [hp, hh]) w1 (hKT.keep HS.chg (by simp))) ?_; rintro _ w36 ⟨rfl, h37⟩; exact ⟨_, rfl, congrArg Value.bool (show (tag k s == (tag k s)) = true from (beq_self_eq_true _)), h37⟩) ?_; intro S' hS'; subst hS'
      refine Lin2.walk_pure (.bool true) (by kernel_rfl) (by kernel_rfl) (by kernel_rfl) (fun w1 => (by kernel_rfl)) ?_; intro S' hS'; subst hS'
      refine Lin2.walk_pure (.bool true) (by kernel_rfl) (by kernel_rfl) (by kernel_rfl) (fun w1 => (by kernel_rfl)) ?_; intro S' hS'; subst hS'
      refine Lin2.walk_pure (.string (bstr k)) (by kernel_rfl) (by kernel_rfl) (by kernel_rfl) (fun w1 => (by kernel_rfl)) ?_; intro S' hS'; subst hS'
      refine Lin2.walk_pure (.string (bstr s)) (by kernel_rfl) (by kernel_rfl) (by kernel_rfl) (fun w1 => (by kernel_rfl)) ?_; intro S' hS'; subst hS'
      refine Lin2.walk_read (.agg (cellsOf h).toArray) 0 0 (by kernel_rfl) (by kernel_rfl) (by kernel_rfl) (by kernel_rfl) (by kernel_rfl) (by intro w1 k1 _ h1 h2 hI; obtain rfl : k1 = 0 := (by omega); have HS : St w w1 [] [.row b26 (cellsOf (sha p)), .row b18 (cellsOf (tag k s)), .row b5 (cellsOf h), .row b2 (cellsOf p), (.big w29.heap.size)] := hI; exact (St.e_loads (i := 0) rfl (by kernel_rfl) _ Tryd.underlying24 rfl 32 rfl (HS.row 2 rfl) [] (cellsOf h) [] (by first | with_reducible rfl | simp only [List.append_assoc, List.cons_append, List.nil_append, List.append_nil]) (by first | omega | (simp [hp, hh]; omega) | simp [hp, hh]) (by first | omega | (simp [hp, hh]; omega) | simp [hp, hh]))) ?_; intro S' hS'; subst hS'
      refine St.walk_callS [] (.bool (tag k s == h)) 0 0 (by kernel_rfl) (by kernel_rfl) (by kernel_rfl) (by kernel_rfl) (fun _ => by kernel_rfl) (by intro f w1 k1 hF _ h1 h2 hI; obtain rfl : k1 = 0 := (by omega); have HS : St w w1 [] [.row b26 (cellsOf (sha p)), .row b18 (cellsOf (tag k s)), .row b5 (cellsOf h), .row b2 (cellsOf p), (.big w29.heap.size)] := hI; refine St.g_call (by kernel_rfl) (Seal.right_any k s h (by first | omega | (simp [hp, hh]; omega) | simp [hp, hh]) (by first | omega | (simp [hp, hh]; omega) | simp [hp, hh]) (by first | omega | (simp [hp, hh]; omega) | simp [hp, hh]) w1 (hKT.keep HS.chg (by simp))) ?_; rintro _ w39 ⟨rfl, h40⟩; exact ⟨_, rfl, rfl, h40⟩) ?_; intro S' hS'; subst hS'
      refine Lin2.walk_read (.agg (cellsOf h).toArray) 0 0 (by kernel_rfl) (by kernel_rfl) (by kernel_rfl) (by kernel_rfl) (by kernel_rfl) (by intro w1 k1 _ h1 h2 hI; obtain rfl : k1 = 0 := (by omega); have HS : St w w1 [] [.row b26 (cellsOf (sha p)), .row b18 (cellsOf (tag k s)), .row b5 (cellsOf h), .row b2 (cellsOf p), (.big w29.heap.size)] := hI; exact (St.e_loads (i := 0) rfl (by kernel_rfl) _ Tryd.underlying24 rfl 32 rfl (HS.row 2 rfl) [] (cellsOf h) [] (by first | with_reducible rfl | simp only [List.append_assoc, List.cons_append, List.nil_append, List.append_nil]) (by first | omega | (simp [hp, hh]; omega) | simp [hp, hh]) (by first | omega | (simp [hp, hh]; omega) | simp [hp, hh]))) ?_; intro S' hS'; subst hS'
      refine Lin2.walk_read (.agg (cellsOf (tag k s)).toArray) 0 0 (by kernel_rfl) (by kernel_rfl) (by kernel_rfl) (by kernel_rfl) (by kernel_rfl) (by intro w1 k1 _ h1 h2 hI; obtain rfl : k1 = 0 := (by omega); have HS : St w w1 [] [.row b26 (cellsOf (sha p)), .row b18 (cellsOf (tag k s)), .row b5 (cellsOf h), .row b2 (cellsOf p), (.big w29.heap.size)] := hI; exact (St.e_loads (i := 0) rfl (by kernel_rfl) _ Tryd.underlying24 rfl 32 rfl (HS.row 1 rfl) [] (cellsOf (tag k s)) [] (by first | with_reducible rfl | simp only [List.append_assoc, List.cons_append, List.nil_append, List.append_nil]) (by first | omega | (simp [hp, hh]; omega) | simp [hp, hh]) (by first | omega | (simp [hp, hh]; omega) | simp [hp, hh]))) ?_; intro S' hS'; subst hS'
      refine Lin2.walk_pure (.bool (h == (tag k s))) (by kernel_rfl) (by kernel_rfl) (by kernel_rfl) (fun w1 => (St.e_aeq (l := h) (m := tag k s) rfl Tryd.underlying24 Tryd.underlying5 (fun _ => rfl) (by kernel_rfl) (by kernel_rfl) (by kernel_rfl) (by first | omega | (simp [hp, hh]; omega) | simp [hp, hh]) (by first | omega | (simp [hp, hh]; omega) | simp [hp, hh]))) ?_; intro S' hS'; subst hS'
      refine Lin2.walk_pure (.bool true) (by kernel_rfl) (by kernel_rfl) (by kernel_rfl) (fun w1 => (St.vb (p := (tag k s == h) == (h == (tag k s))) (by kernel_rfl) (St.beq_swap _ _))) ?_; intro S' hS'; subst hS'
      refine Lin2.walk_pure (.bool true) (by kernel_rfl) (by kernel_rfl) (by kernel_rfl) (fun w1 => (by kernel_rfl)) ?_; intro S' hS'; subst hS'
      refine Lin2.walk_pure (.bool true) (by kernel_rfl) (by kernel_rfl) (by kernel_rfl) (fun w1 => (by kernel_rfl)) ?_; intro S' hS'; subst hS'
      refine Lin2.walk_read (.agg (cellsOf p).toArray) 0 0 (by kernel_rfl) (by kernel_rfl) (by kernel_rfl) (by kernel_rfl) (by kernel_rfl) (by intro w1 k1 _ h1 h2 hI; obtain rfl : k1 = 0 := (by omega); have HS : St w w1 [] [.row b26 (cellsOf (sha p)), .row b18 (cellsOf (tag k s)), .row b5 (cellsOf h), .row b2 (cellsOf p), (.big w29.heap.size)] := hI; exact (St.e_loads (i := 0) rfl (by kernel_rfl) _ Tryd.underlying24 rfl 32 rfl (HS.row 3 rfl) [] (cellsOf p) [] (by first | with_reducible rfl | simp only [List.append_assoc, List.cons_append, List.nil_append, List.append_nil]) (by first | omega | (simp [hp, hh]; omega) | simp [hp, hh]) (by first | omega | (simp [hp, hh]; omega) | simp [hp, hh]))) ?_; intro S' hS'; subst hS'
      refine St.walk_callS [] (.agg (cellsOf (sha p)).toArray) 0 0 (by kernel_rfl) (by kernel_rfl) (by kernel_rfl) (by kernel_rfl) (fun _ => by kernel_rfl) (by intro f w1 k1 hF _ h1 h2 hI; obtain rfl : k1 = 0 := (by omega); have HS : St w w1 [] [.row b26 (cellsOf (sha p)), .row b18 (cellsOf (tag k s)), .row b5 (cellsOf h), .row b2 (cellsOf p), (.big w29.heap.size)] := hI; refine St.g_call (by kernel_rfl) (Seal.of_any p (by first | omega | (simp [hp, hh]; omega) | simp [hp, hh]) w1 (hKT.keep HS.chg (by simp))) ?_; rintro _ w42 ⟨rfl, h43⟩; exact ⟨_, rfl, rfl, h43⟩) ?_; intro S' hS'; subst hS'
      refine Lin2.walk_read (.agg (cellsOf (sha p)).toArray) 0 0 (by kernel_rfl) (by kernel_rfl) (by kernel_rfl) (by kernel_rfl) (by kernel_rfl) (by intro w1 k1 _ h1 h2 hI; obtain rfl : k1 = 0 := (by omega); have HS : St w w1 [] [.row b26 (cellsOf (sha p)), .row b18 (cellsOf (tag k s)), .row b5 (cellsOf h), .row b2 (cellsOf p), (.big w29.heap.size)] := hI; exact (St.e_loads (i := 0) rfl (by kernel_rfl) _ Tryd.underlying24 rfl 32 rfl (HS.row 0 rfl) [] (cellsOf (sha p)) [] (by first | with_reducible rfl | simp only [List.append_assoc, List.cons_append, List.nil_append, List.append_nil]) (by first | omega | (simp [hp, hh]; omega) | simp [hp, hh]) (by first | omega | (simp [hp, hh]; omega) | simp [hp, hh]))) ?_; intro S' hS'; subst hS'
      refine Lin2.walk_pure (.bool true) (by kernel_rfl) (by kernel_rfl) (by kernel_rfl) (fun w1 => (St.vb (St.e_aeq (l := sha p) (m := sha p) rfl Tryd.underlying24 Tryd.underlying5 (fun _ => rfl) (by kernel_rfl) (by kernel_rfl) (by kernel_rfl) (by first | omega | (simp [hp, hh]; omega) | simp [hp, hh]) (by first | omega | (simp [hp, hh]; omega) | simp [hp, hh])) (beq_self_eq_true _))) ?_; intro S' hS'; subst hS'
      refine Lin2.walk_pure (.bool true) (by kernel_rfl) (by kernel_rfl) (by kernel_rfl) (fun w1 => (by kernel_rfl)) ?_; intro S' hS'; subst hS'
      refine Lin2.walk_pure (.bool true) (by kernel_rfl) (by kernel_rfl) (by kernel_rfl) (fun w1 => (by kernel_rfl)) ?_; intro S' hS'; subst hS'
      refine Lin2.walk_read (.agg (cellsOf p).toArray) 0 0 (by kernel_rfl) (by kernel_rfl) (by kernel_rfl) (by kernel_rfl) (by kernel_rfl) (by intro w1 k1 _ h1 h2 hI; obtain rfl : k1 = 0 := (by omega); have HS : St w w1 [] [.row b26 (cellsOf (sha p)), .row b18 (cellsOf (tag k s)), .row b5 (cellsOf h), .row b2 (cellsOf p), (.big w29.heap.size)] := hI; exact (St.e_loads (i := 0) rfl (by kernel_rfl) _ Tryd.underlying24 rfl 32 rfl (HS.row 3 rfl) [] (cellsOf p) [] (by first | with_reducible rfl | simp only [List.append_assoc, List.cons_append, List.nil_append, List.append_nil]) (by first | omega | (simp [hp, hh]; omega) | simp [hp, hh]) (by first | omega | (simp [hp, hh]; omega) | simp [hp, hh]))) ?_; intro S' hS'; subst hS'
      refine Lin2.walk_read (.agg (cellsOf (sha p)).toArray) 0 0 (by kernel_rfl) (by kernel_rfl) (by kernel_rfl) (by kernel_rfl) (by kernel_rfl) (by intro w1 k1 _ h1 h2 hI; obtain rfl : k1 = 0 := (by omega); have HS : St w w1 [] [.row b26 (cellsOf (sha p)), .row b18 (cellsOf (tag k s)), .row b5 (cellsOf h), .row b2 (cellsOf p), (.big w29.heap.size)] := hI; exact (St.e_loads (i := 0) rfl (by kernel_rfl) _ Tryd.underlying24 rfl 32 rfl (HS.row 0 rfl) [] (cellsOf (sha p)) [] (by first | with_reducible rfl | simp only [List.append_assoc, List.cons_append, List.nil_append, List.append_nil]) (by first | omega | (simp [hp, hh]; omega) | simp [hp, hh]) (by first | omega | (simp [hp, hh]; omega) | simp [hp, hh]))) ?_; intro S' hS'; subst hS'
      refine St.walk_callS [] (.bool true) 0 0 (by kernel_rfl) (by kernel_rfl) (by kernel_rfl) (by kernel_rfl) (fun _ => by kernel_rfl) (by intro f w1 k1 hF _ h1 h2 hI; obtain rfl : k1 = 0 := (by omega); have HS : St w w1 [] [.row b26 (cellsOf (sha p)), .row b18 (cellsOf (tag k s)), .row b5 (cellsOf h), .row b2 (cellsOf p), (.big w29.heap.size)] := hI; refine St.g_call (by kernel_rfl) (Seal.opens_any p (sha p) (by first | omega | (simp [hp, hh]; omega) | simp [hp, hh]) (by first | omega | (simp [hp, hh]; omega) | simp [hp, hh]) w1 (hKT.keep HS.chg (by simp))) ?_; rintro _ w45 ⟨rfl, h46⟩; exact ⟨_, rfl, congrArg Value.bool (show (sha p == (sha p)) = true from (beq_self_eq_true _)), h46⟩) ?_; intro S' hS'; subst hS'
      refine Lin2.walk_pure (.bool true) (by kernel_rfl) (by kernel_rfl) (by kernel_rfl) (fun w1 => (by kernel_rfl)) ?_; intro S' hS'; subst hS'
      refine Lin2.walk_pure (.bool true) (by kernel_rfl) (by kernel_rfl) (by kernel_rfl) (fun w1 => (by kernel_rfl)) ?_; intro S' hS'; subst hS'
      refine Lin2.walk_read (.agg (cellsOf p).toArray) 0 0 (by kernel_rfl) (by kernel_rfl) (by kernel_rfl) (by kernel_rfl) (by kernel_rfl) (by intro w1 k1 _ h1 h2 hI; obtain rfl : k1 = 0 := (by omega); have HS : St w w1 [] [.row b26 (cellsOf (sha p)), .row b18 (cellsOf (tag k s)), .row b5 (cellsOf h), .row b2 (cellsOf p), (.big w29.heap.size)] := hI; exact (St.e_loads (i := 0) rfl (by kernel_rfl) _ Tryd.underlying24 rfl 32 rfl (HS.row 3 rfl) [] (cellsOf p) [] (by first | with_reducible rfl | simp only [List.append_assoc, List.cons_append, List.nil_append, List.append_nil]) (by first | omega | (simp [hp, hh]; omega) | simp [hp, hh]) (by first | omega | (simp [hp, hh]; omega) | simp [hp, hh]))) ?_; intro S' hS'; subst hS'
      refine Lin2.walk_read (.agg (cellsOf h).toArray) 0 0 (by kernel_rfl) (by kernel_rfl) (by kernel_rfl) (by kernel_rfl) (by kernel_rfl) (by intro w1 k1 _ h1 h2 hI; obtain rfl : k1 = 0 := (by omega); have HS : St w w1 [] [.row b26 (cellsOf (sha p)), .row b18 (cellsOf (tag k s)), .row b5 (cellsOf h), .row b2 (cellsOf p), (.big w29.heap.size)] := hI; exact (St.e_loads (i := 0) rfl (by kernel_rfl) _ Tryd.underlying24 rfl 32 rfl (HS.row 2 rfl) [] (cellsOf h) [] (by first | with_reducible rfl | simp only [List.append_assoc, List.cons_append, List.nil_append, List.append_nil]) (by first | omega | (simp [hp, hh]; omega) | simp [hp, hh]) (by first | omega | (simp [hp, hh]; omega) | simp [hp, hh]))) ?_; intro S' hS'; subst hS'
      refine St.walk_callS [] (.bool (sha p == h)) 0 0 (by kernel_rfl) (by kernel_rfl) (by kernel_rfl) (by kernel_rfl) (fun _ => by kernel_rfl) (by intro f w1 k1 hF _ h1 h2 hI; obtain rfl : k1 = 0 := (by omega); have HS : St w w1 [] [.row b26 (cellsOf (sha p)), .row b18 (cellsOf (tag k s)), .row b5 (cellsOf h), .row b2 (cellsOf p), (.big w29.heap.size)] := hI; refine St.g_call (by kernel_rfl) (Seal.opens_any p h (by first | omega | (simp [hp, hh]; omega) | simp [hp, hh]) (by first | omega | (simp [hp, hh]; omega) | simp [hp, hh]) w1 (hKT.keep HS.chg (by simp))) ?_; rintro _ w48 ⟨rfl, h49⟩; exact ⟨_, rfl, rfl, h49⟩) ?_; intro S' hS'; subst hS'
      refine Lin2.walk_read (.agg (cellsOf h).toArray) 0 0 (by kernel_rfl) (by kernel_rfl) (by kernel_rfl) (by kernel_rfl) (by kernel_rfl) (by intro w1 k1 _ h1 h2 hI; obtain rfl : k1 = 0 := (by omega); have HS : St w w1 [] [.row b26 (cellsOf (sha p)), .row b18 (cellsOf (tag k s)), .row b5 (cellsOf h), .row b2 (cellsOf p), (.big w29.heap.size)] := hI; exact (St.e_loads (i := 0) rfl (by kernel_rfl) _ Tryd.underlying24 rfl 32 rfl (HS.row 2 rfl) [] (cellsOf h) [] (by first | with_reducible rfl | simp only [List.append_assoc, List.cons_append, List.nil_append, List.append_nil]) (by first | omega | (simp [hp, hh]; omega) | simp [hp, hh]) (by first | omega | (simp [hp, hh]; omega) | simp [hp, hh]))) ?_; intro S' hS'; subst hS'
      refine Lin2.walk_read (.agg (cellsOf (sha p)).toArray) 0 0 (by kernel_rfl) (by kernel_rfl) (by kernel_rfl) (by kernel_rfl) (by kernel_rfl) (by intro w1 k1 _ h1 h2 hI; obtain rfl : k1 = 0 := (by omega); have HS : St w w1 [] [.row b26 (cellsOf (sha p)), .row b18 (cellsOf (tag k s)), .row b5 (cellsOf h), .row b2 (cellsOf p), (.big w29.heap.size)] := hI; exact (St.e_loads (i := 0) rfl (by kernel_rfl) _ Tryd.underlying24 rfl 32 rfl (HS.row 0 rfl) [] (cellsOf (sha p)) [] (by first | with_reducible rfl | simp only [List.append_assoc, List.cons_append, List.nil_append, List.append_nil]) (by first | omega | (simp [hp, hh]; omega) | simp [hp, hh]) (by first | omega | (simp [hp, hh]; omega) | simp [hp, hh]))) ?_; intro S' hS'; subst hS'
      refine Lin2.walk_pure (.bool (h == (sha p))) (by kernel_rfl) (by kernel_rfl) (by kernel_rfl) (fun w1 => (St.e_aeq (l := h) (m := sha p) rfl Tryd.underlying24 Tryd.underlying5 (fun _ => rfl) (by kernel_rfl) (by kernel_rfl) (by kernel_rfl) (by first | omega | (simp [hp, hh]; omega) | simp [hp, hh]) (by first | omega | (simp [hp, hh]; omega) | simp [hp, hh]))) ?_; intro S' hS'; subst hS'
      refine Lin2.walk_pure (.bool true) (by kernel_rfl) (by kernel_rfl) (by kernel_rfl) (fun w1 => (St.vb (p := (sha p == h) == (h == (sha p))) (by kernel_rfl) (St.beq_swap _ _))) ?_; intro S' hS'; subst hS'
      refine Lin2.walk_pure (.bool true) (by kernel_rfl) (by kernel_rfl) (by kernel_rfl) (fun w1 => (by kernel_rfl)) ?_; intro S' hS'; subst hS'
      refine Lin2.walk_pure (.bool true) (by kernel_rfl) (by kernel_rfl) (by kernel_rfl) (fun w1 => (by kernel_rfl)) ?_; intro S' hS'; subst hS'
      refine Lin2.walk_end0 rfl ?_; intro w51 _ hI
      have HS52 : St w w51 [] [.row b26 (cellsOf (sha p)), .row b18 (cellsOf (tag k s)), .row b5 (cellsOf h), .row b2 (cellsOf p)] := St.unbig (e := .big w29.heap.size) hI; clear hI HS30
      refine St.finQ (⟨#[.string (bstr k), .string (bstr s), .agg (cellsOf p).toArray, .agg (cellsOf h).toArray, undef, undef, .pointer (some ⟨b2, 0, none⟩), .pointer (some ⟨b5, 0, none⟩), .bool true, .pointer (some ⟨b18, 0, none⟩), .pointer (some ⟨b26, 0, none⟩), .string (bstr k), .int .i64 (k.length : Int), .bool false, .bool false, .string (bstr s), .int .i64 (s.length : Int), .bool false, .bool false, .bool false, .bool true, .bool false, .bool false, undef, .string (bstr k), .string (bstr s), .agg (cellsOf (tag k s)).toArray, .agg (cellsOf p).toArray, .agg (cellsOf (sha p)).toArray, .string (bstr k), .string (bstr s), .agg (cellsOf (tag k s)).toArray, .agg (cellsOf (tag k s)).toArray, .bool true, .bool true, .string (bstr k), .string (bstr s), .agg (cellsOf (tag k s)).toArray, .bool true, .bool true, .bool true, .string (bstr k), .string (bstr s), .agg (cellsOf h).toArray, .bool (tag k s == h), .agg (cellsOf h).toArray, .agg (cellsOf (tag k s)).toArray, .bool (h == (tag k s)), .bool true, .bool true, .bool true, .agg (cellsOf p).toArray, .agg (cellsOf (sha p)).toArray, .agg (cellsOf (sha p)).toArray, .bool true, .bool true, .bool true, .agg (cellsOf p).toArray, .agg (cellsOf (sha p)).toArray, .bool true, .bool true, .bool true, .agg (cellsOf p).toArray, .agg (cellsOf h).toArray, .bool (sha p == h), .agg (cellsOf h).toArray, .agg (cellsOf (sha p)).toArray, .bool (h == (sha p)), .bool true, .bool true], []⟩) (by kernel_rfl) ?_
      refine St.then_n ?_
      refine wp_ret ?_
      refine bodyPost_ret (v := .bool true) (by kernel_rfl) rfl ?_
      -- end 0: [.row b26 (cellsOf (sha p)), .row b18 (cellsOf (tag k s)), .row b5 (cellsOf h), .row b2 (cellsOf p)]
      exact ⟨rfl, HS52.only⟩
    · skip
      have q53 := of_decide_eq_true hg10
      refine St.rgn ?_
      refine St.sv (.string (bstr k)) rfl (by kernel_rfl) ?_
      refine St.sv (.int .i64 (k.length : Int)) rfl (St.e_len (l := k) 9 rfl Tryd.underlying9 (by kernel_rfl)) ?_
      refine St.sv (.bool false) rfl (St.vb (by kernel_rfl) hg8) ?_
      refine St.sv (.bool false) rfl (by kernel_rfl) ?_
      refine St.svq (.string (bstr s)) (by kernel_rfl) (by kernel_rfl) ?_
      refine St.svq (.int .i64 (s.length : Int)) (by kernel_rfl) (St.e_len (l := s) 9 rfl Tryd.underlying9 (by kernel_rfl)) ?_
      refine St.svq (.bool true) (by kernel_rfl) (St.vb (by kernel_rfl) hg10) ?_
      refine St.sv (.bool true) rfl (by kernel_rfl) ?_
      refine St.sv (.bool true) rfl (by kernel_rfl) ?_
      refine St.skip (by kernel_rfl) ?_
      refine St.skip (by kernel_rfl) ?_
      refine St.sv (.bool true) rfl (by kernel_rfl) ?_
      refine St.fin (⟨#[.string (bstr k), .string (bstr s), .agg (cellsOf p).toArray, .agg (cellsOf h).toArray, undef, undef, .pointer (some ⟨b2, 0, none⟩), .pointer (some ⟨b5, 0, none⟩), .bool false, undef, undef, .string (bstr k), .int .i64 (k.length : Int), .bool false, .bool false, .string (bstr s), .int .i64 (s.length : Int), .bool true, .bool true, .bool true, undef, undef, .bool true, undef, undef, undef, undef, undef, undef, undef, undef, undef, undef, undef, undef, undef, undef, undef, undef, undef, undef, undef, undef, undef, undef, undef, undef, undef, undef, undef, undef, undef, undef, undef, undef, undef, undef, undef, undef, undef, undef, undef, undef, undef, undef, undef, undef, undef, undef, undef], []⟩) (by kernel_rfl) ?_
      refine St.then_n ?_
      refine wp_cond_true rfl ?_
      refine wp_seq ?_
      refine St.rgn ?_
      refine St.scall rfl (by kernel_rfl) (Seal.shown_any w6 (hKT.keep HS7.chg (by simp))) ?_
      rintro _ w54 ⟨rfl, h55⟩; refine ⟨_, rfl, ?_⟩
      have HS56 := HS7.quiet h55
      clear HS7
      refine St.sv (.bool true) rfl (by kernel_rfl) ?_
      refine St.fin (⟨#[.string (bstr k), .string (bstr s), .agg (cellsOf p).toArray, .agg (cellsOf h).toArray, undef, undef, .pointer (some ⟨b2, 0, none⟩), .pointer (some ⟨b5, 0, none⟩), .bool true, undef, undef, .string (bstr k), .int .i64 (k.length : Int), .bool false, .bool false, .string (bstr s), .int .i64 (s.length : Int), .bool true, .bool true, .bool true, undef, undef, .bool true, .bool true, undef, undef, undef, undef, undef, undef, undef, undef, undef, undef, undef, undef, undef, undef, undef, undef, undef, undef, undef, undef, undef, undef, undef, undef, undef, undef, undef, undef, undef, undef, undef, undef, undef, undef, undef, undef, undef, undef, undef, undef, undef, undef, undef, undef, undef, undef], []⟩) (by kernel_rfl) ?_
      refine St.then_n ?_
      refine wp_ret ?_
      refine St.then_r ?_
      refine bodyPost_ret (v := .bool true) (by kernel_rfl) rfl ?_
      -- end 1: [.row b5 (cellsOf h), .row b2 (cellsOf p)]
      exact ⟨rfl, HS56.only⟩
  · skip
    have q57 := of_decide_eq_true hg8
    refine St.rgn ?_
    refine St.sv (.string (bstr k)) rfl (by kernel_rfl) ?_
    refine St.sv (.int .i64 (k.length : Int)) rfl (St.e_len (l := k) 9 rfl Tryd.underlying9 (by kernel_rfl)) ?_
    refine St.sv (.bool true) rfl (St.vb (by kernel_rfl) hg8) ?_
    refine St.sv (.bool true) rfl (by kernel_rfl) ?_
    refine St.skip (by kernel_rfl) ?_
    refine St.skip (by kernel_rfl) ?_
    refine St.skip (by kernel_rfl) ?_
    refine St.sv (.bool true) rfl (by kernel_rfl) ?_
    refine St.sv (.bool true) rfl (by kernel_rfl) ?_
    refine St.skip (by kernel_rfl) ?_
    refine St.skip (by kernel_rfl) ?_
    refine St.sv (.bool true) rfl (by kernel_rfl) ?_
    refine St.fin (⟨#[.string (bstr k), .string (bstr s), .agg (cellsOf p).toArray, .agg (cellsOf h).toArray, undef, undef, .pointer (some ⟨b2, 0, none⟩), .pointer (some ⟨b5, 0, none⟩), .bool false, undef, undef, .string (bstr k), .int .i64 (k.length : Int), .bool true, .bool true, undef, undef, undef, .bool true, .bool true, undef, undef, .bool true, undef, undef, undef, undef, undef, undef, undef, undef, undef, undef, undef, undef, undef, undef, undef, undef, undef, undef, undef, undef, undef, undef, undef, undef, undef, undef, undef, undef, undef, undef, undef, undef, undef, undef, undef, undef, undef, undef, undef, undef, undef, undef, undef, undef, undef, undef, undef], []⟩) (by kernel_rfl) ?_
    refine St.then_n ?_
    refine wp_cond_true rfl ?_
    refine wp_seq ?_
    refine St.rgn ?_
    refine St.scall rfl (by kernel_rfl) (Seal.shown_any w6 (hKT.keep HS7.chg (by simp))) ?_
    rintro _ w58 ⟨rfl, h59⟩; refine ⟨_, rfl, ?_⟩
    have HS60 := HS7.quiet h59
    clear HS7
    refine St.sv (.bool true) rfl (by kernel_rfl) ?_
    refine St.fin (⟨#[.string (bstr k), .string (bstr s), .agg (cellsOf p).toArray, .agg (cellsOf h).toArray, undef, undef, .pointer (some ⟨b2, 0, none⟩), .pointer (some ⟨b5, 0, none⟩), .bool true, undef, undef, .string (bstr k), .int .i64 (k.length : Int), .bool true, .bool true, undef, undef, undef, .bool true, .bool true, undef, undef, .bool true, .bool true, undef, undef, undef, undef, undef, undef, undef, undef, undef, undef, undef, undef, undef, undef, undef, undef, undef, undef, undef, undef, undef, undef, undef, undef, undef, undef, undef, undef, undef, undef, undef, undef, undef, undef, undef, undef, undef, undef, undef, undef, undef, undef, undef, undef, undef, undef], []⟩) (by kernel_rfl) ?_
    refine St.then_n ?_
    refine wp_ret ?_
    refine St.then_r ?_
    refine bodyPost_ret (v := .bool true) (by kernel_rfl) rfl ?_
    -- end 2: [.row b5 (cellsOf h), .row b2 (cellsOf p)]
    exact ⟨rfl, HS60.only⟩
set_option maxHeartbeats 8000000 in
theorem long_law (k s : List UInt8) (z : UInt8) (hk : k.length ≤ 140737488351232) (hs : s.length ≤ 140737488351232) (w : World) (hKT : KTab w) :
    Calls Tryd.prog 3 #[.string (bstr k), .string (bstr s), .int .u8 (z.toNat : Int)] w fun r w' => r = .returned (.bool true) ∧ OnlyNew w w' := by
  refine calls_of_wp Tryd.func3 rfl ?_
  refine St.ent0 (⟨#[.string (bstr k), .string (bstr s), .int .u8 (z.toNat : Int), undef, undef, undef, undef, undef, undef, undef, undef, undef, undef, undef, undef, undef, undef, undef, undef, undef, undef, undef, undef, undef, undef, undef, undef, undef, undef, undef, undef, undef, undef, undef, undef, undef, undef, undef, undef, undef, undef, undef, undef, undef, undef, undef, undef, undef, undef, undef], []⟩) (by kernel_rfl) ?_
  have HS1 : St w w [] [] := St.nil _ _
  have hz := z.toNat_lt
  refine wp_seq ?_
  refine St.rgn ?_
  refine St.sv (.bool false) rfl (by kernel_rfl) ?_
  refine St.fin (⟨#[.string (bstr k), .string (bstr s), .int .u8 (z.toNat : Int), undef, undef, undef, .bool false, undef, undef, undef, undef, undef, undef, undef, undef, undef, undef, undef, undef, undef, undef, undef, undef, undef, undef, undef, undef, undef, undef, undef, undef, undef, undef, undef, undef, undef, undef, undef, undef, undef, undef, undef, undef, undef, undef, undef, undef, undef, undef, undef], []⟩) (by kernel_rfl) ?_
  refine St.then_n ?_
  refine wp_seq ?_
  refine wp_seq ?_
  cases hg2 : decide ((k.length : Int) > 300)
  · skip
    have q3 := of_decide_eq_false hg2
    cases hg4 : decide ((s.length : Int) > 300)
    · skip
      have q5 := of_decide_eq_false hg4
      refine St.rgn ?_
      refine St.sv (.string (bstr k)) rfl (by kernel_rfl) ?_
      refine St.sv (.int .i64 (k.length : Int)) rfl (St.e_len (l := k) 9 rfl Tryd.underlying9 (by kernel_rfl)) ?_
      refine St.sv (.bool false) rfl (St.vb (by kernel_rfl) hg2) ?_
      refine St.sv (.bool false) rfl (by kernel_rfl) ?_
      refine St.svq (.string (bstr s)) (by kernel_rfl) (by kernel_rfl) ?_
      refine St.svq (.int .i64 (s.length : Int)) (by kernel_rfl) (St.e_len (l := s) 9 rfl Tryd.underlying9 (by kernel_rfl)) ?_
      refine St.svq (.bool false) (by kernel_rfl) (St.vb (by kernel_rfl) hg4) ?_
      refine St.sv (.bool false) rfl (by kernel_rfl) ?_
      refine St.sv (.bool false) rfl (by kernel_rfl) ?_
      refine St.scallq (by kernel_rfl) (by kernel_rfl) (Seal.shown_any w (hKT.keep HS1.chg (by simp))) ?_
      rintro _ w6 ⟨rfl, h7⟩; refine ⟨_, rfl, ?_⟩
      have HS8 := HS1.quiet h7
      clear HS1
      refine St.svq (.bool false) (by kernel_rfl) (by kernel_rfl) ?_
      refine St.sv (.bool false) rfl (by kernel_rfl) ?_
      refine St.fin (⟨#[.string (bstr k), .string (bstr s), .int .u8 (z.toNat : Int), undef, undef, undef, .bool false, undef, undef, .string (bstr k), .int .i64 (k.length : Int), .bool false, .bool false, .string (bstr s), .int .i64 (s.length : Int), .bool false, .bool false, .bool false, .bool true, .bool false, .bool false, undef, undef, undef, undef, undef, undef, undef, undef, undef, undef, undef, undef, undef, undef, undef, undef, undef, undef, undef, undef, undef, undef, undef, undef, undef, undef, undef, undef, undef], []⟩) (by kernel_rfl) ?_
      refine St.then_n ?_
      refine wp_cond_false rfl ?_
      refine wp_skip ?_
      refine St.then_n ?_
      refine wp_seq ?_
      refine St.rgn ?_
      refine St.sv (.string (bstr k)) rfl (by kernel_rfl) ?_
      refine St.sv (.string (bstr s)) rfl (by kernel_rfl) ?_
      refine St.scall rfl (by kernel_rfl) (Seal.tag_any k s (by first | omega | (simp; omega) | simp) (by first | omega | (simp; omega) | simp) w6 (hKT.keep HS8.chg (by simp))) ?_
      rintro _ w9 ⟨rfl, h10⟩; refine ⟨_, rfl, ?_⟩
      have HS11 := HS8.quiet h10
      clear HS8
      refine St.sg rfl (St.g_alloc 24 rfl (cellsOf (List.replicate 32 0)) (by kernel_rfl) HS11) ?_
      rintro _ w13 ⟨b12, rfl, _, HS14⟩
      clear HS11
      refine St.sg rfl (St.g_stores (i := 0) rfl (by kernel_rfl) (cellsOf (tag k s)) (by kernel_rfl) (cellsOf_one _) 32 rfl HS14 0 rfl [] (cellsOf (List.replicate 32 0)) [] (by first | with_reducible rfl | simp only [List.append_assoc, List.cons_append, List.nil_append, List.append_nil]) (by first | omega | (simp; omega) | simp) (by first | omega | (simp; omega) | simp) (by first | omega | (simp; omega) | simp) (cellsOf (tag k s)) (by first | with_reducible rfl | simp only [List.append_assoc, List.cons_append, List.nil_append, List.append_nil])) ?_
      rintro _ w15 ⟨rfl, HS16⟩
      replace HS16 : St w w15 [] [.row b12 (cellsOf (tag k s))] := HS16
      clear HS14
      refine St.fin (⟨#[.string (bstr k), .string (bstr s), .int .u8 (z.toNat : Int), undef, undef, undef, .bool false, .pointer (some ⟨b12, 0, none⟩), undef, .string (bstr k), .int .i64 (k.length : Int), .bool false, .bool false, .string (bstr s), .int .i64 (s.length : Int), .bool false, .bool false, .bool false, .bool true, .bool false, .bool false, undef, .string (bstr k), .string (bstr s), .agg (cellsOf (tag k s)).toArray, undef, undef, undef, undef, undef, undef, undef, undef, undef, undef, undef, undef, undef, undef, undef, undef, undef, undef, undef, undef, undef, undef, undef, undef, undef], []⟩) (by kernel_rfl) ?_
      refine St.then_n ?_
      refine wp_seq ?_
      refine wp_seq ?_
      refine St.rgn ?_
      refine St.sv (.string (bstr k)) rfl (by kernel_rfl) ?_
      refine St.sv (.int .i64 (k.length : Int)) rfl (St.e_len (l := k) 9 rfl Tryd.underlying9 (by kernel_rfl)) ?_
      refine St.sv (.bool (decide ((k.length : Int) > 64))) rfl (by kernel_rfl) ?_
      refine St.fin (⟨#[.string (bstr k), .string (bstr s), .int .u8 (z.toNat : Int), undef, undef, undef, .bool false, .pointer (some ⟨b12, 0, none⟩), undef, .string (bstr k), .int .i64 (k.length : Int), .bool false, .bool false, .string (bstr s), .int .i64 (s.length : Int), .bool false, .bool false, .bool false, .bool true, .bool false, .bool false, undef, .string (bstr k), .string (bstr s), .agg (cellsOf (tag k s)).toArray, .string (bstr k), .int .i64 (k.length : Int), .bool (decide ((k.length : Int) > 64)), undef, undef, undef, undef, undef, undef, undef, undef, undef, undef, undef, undef, undef, undef, undef, undef, undef, undef, undef, undef, undef, undef], []⟩) (by kernel_rfl) ?_
      refine St.then_n ?_
      refine wp_cond_split (t := decide ((k.length : Int) > 64)) rfl (fun hc17 => ?_) (fun hc17 => ?_)
      · skip
        have q18 := of_decide_eq_true hc17
        refine wp_seq ?_
        refine St.rgn ?_
        refine St.sv (.string (bstr k)) rfl (by kernel_rfl) ?_
        refine St.scall rfl (by kernel_rfl) (Dig.sha_any k (by first | omega | (simp; omega) | simp) w15 (hKT.keep HS16.chg (by simp))) ?_
        rintro _ w19 ⟨rfl, h20⟩; refine ⟨_, rfl, ?_⟩
        have HS21 := HS16.quiet h20
        clear HS16
        refine St.sg rfl (St.g_alloc 24 rfl (cellsOf (List.replicate 32 0)) (by kernel_rfl) HS21) ?_
        rintro _ w23 ⟨b22, rfl, _, HS24⟩
        clear HS21
        refine St.sg rfl (St.g_stores (i := 0) rfl (by kernel_rfl) (cellsOf (sha k)) (by kernel_rfl) (cellsOf_one _) 32 rfl HS24 0 rfl [] (cellsOf (List.replicate 32 0)) [] (by first | with_reducible rfl | simp only [List.append_assoc, List.cons_append, List.nil_append, List.append_nil]) (by first | omega | (simp; omega) | simp) (by first | omega | (simp; omega) | simp) (by first | omega | (simp; omega) | simp) (cellsOf (sha k)) (by first | with_reducible rfl | simp only [List.append_assoc, List.cons_append, List.nil_append, List.append_nil])) ?_
        rintro _ w25 ⟨rfl, HS26⟩
        replace HS26 : St w w25 [] [.row b22 (cellsOf (sha k)), .row b12 (cellsOf (tag k s))] := HS26
        clear HS24
        refine St.fin (⟨#[.string (bstr k), .string (bstr s), .int .u8 (z.toNat : Int), undef, undef, undef, .bool false, .pointer (some ⟨b12, 0, none⟩), .pointer (some ⟨b22, 0, none⟩), .string (bstr k), .int .i64 (k.length : Int), .bool false, .bool false, .string (bstr s), .int .i64 (s.length : Int), .bool false, .bool false, .bool false, .bool true, .bool false, .bool false, undef, .string (bstr k), .string (bstr s), .agg (cellsOf (tag k s)).toArray, .string (bstr k), .int .i64 (k.length : Int), .bool (decide ((k.length : Int) > 64)), .string (bstr k), .agg (cellsOf (sha k)).toArray, undef, undef, undef, undef, undef, undef, undef, undef, undef, undef, undef, undef, undef, undef, undef, undef, undef, undef, undef, undef], []⟩) (by kernel_rfl) ?_
        refine St.then_n ?_
        refine wp_seq ?_
        refine Lin2.region_lin [0, 0, 2, 0, 14, 31, 63] [] [] (fun _ => True) (St.StK w [] [[.row b22 (cellsOf (sha k)), .row b12 (cellsOf (tag k s)), (.big w25.heap.size)]]) St.StK.quiet 50 (by kernel_rfl) rfl (by kernel_rfl) HS26.big.drew ?_
        refine Lin2.walk_read (.agg (cellsOf (tag k s)).toArray) 0 0 (by kernel_rfl) (by kernel_rfl) (by kernel_rfl) (by kernel_rfl) (by kernel_rfl) (by intro w1 k1 _ h1 h2 hI; obtain rfl : k1 = 0 := (by omega); have HS : St w w1 [] [.row b22 (cellsOf (sha k)), .row b12 (cellsOf (tag k s)), (.big w25.heap.size)] := hI; exact (St.e_loads (i := 0) rfl (by kernel_rfl) _ Tryd.underlying24 rfl 32 rfl (HS.row 1 rfl) [] (cellsOf (tag k s)) [] (by first | with_reducible rfl | simp only [List.append_assoc, List.cons_append, List.nil_append, List.append_nil]) (by first | omega | (simp; omega) | simp) (by first | omega | (simp; omega) | simp))) ?_; intro S' hS'; subst hS'
        refine Lin2.walk_pure (.slice (some ⟨b22, 0, none⟩) 32 32) (by kernel_rfl) (by kernel_rfl) (by kernel_rfl) (fun w1 => (by kernel_rfl)) ?_; intro S' hS'; subst hS'
        refine Lin2.walk_read (.string (bstr (sha k))) 0 0 (by kernel_rfl) (by kernel_rfl) (by kernel_rfl) (by kernel_rfl) (by kernel_rfl) (by intro w1 k1 _ h1 h2 hI; obtain rfl : k1 = 0 := (by omega); have HS : St w w1 [] [.row b22 (cellsOf (sha k)), .row b12 (cellsOf (tag k s)), (.big w25.heap.size)] := hI; exact (St.e_bs (l := sha k) (n := 32) (cap := 32) rfl Tryd.underlying27 Tryd.underlying5 Tryd.underlying9 (by kernel_rfl) (HS.row 0 rfl) (by first | omega | (simp; omega) | simp))) ?_; intro S' hS'; subst hS'
        refine Lin2.walk_pure (.string (bstr s)) (by kernel_rfl) (by kernel_rfl) (by kernel_rfl) (fun w1 => (by kernel_rfl)) ?_; intro S' hS'; subst hS'
        refine St.walk_callS [] (.agg (cellsOf (tag (sha k) s)).toArray) 0 0 (by kernel_rfl) (by kernel_rfl) (by kernel_rfl) (by kernel_rfl) (fun _ => by kernel_rfl) (by intro f w1 k1 hF _ h1 h2 hI; obtain rfl : k1 = 0 := (by omega); have HS : St w w1 [] [.row b22 (cellsOf (sha k)), .row b12 (cellsOf (tag k s)), (.big w25.heap.size)] := hI; refine St.g_call (by kernel_rfl) (Seal.tag_any (sha k) s (by first | omega | (simp; omega) | simp) (by first | omega | (simp; omega) | simp) w1 (hKT.keep HS.chg (by simp))) ?_; rintro _ w29 ⟨rfl, h30⟩; exact ⟨_, rfl, rfl, h30⟩) ?_; intro S' hS'; subst hS'
        refine Lin2.walk_pure (.bool true) (by kernel_rfl) (by kernel_rfl) (by kernel_rfl) (fun w1 => (St.vb (St.e_aeq (l := tag k s) (m := tag (sha k) s) rfl Tryd.underlying24 Tryd.underlying5 (fun _ => rfl) (by kernel_rfl) (by kernel_rfl) (by kernel_rfl) (by first | omega | (simp; omega) | simp) (by first | omega | (simp; omega) | simp)) (show ((tag k s) == (tag (sha k) s)) = true from (by rw [tag_long k s (by omega)]; exact beq_self_eq_true _)))) ?_; intro S' hS'; subst hS'
        refine Lin2.walk_pure (.bool true) (by kernel_rfl) (by kernel_rfl) (by kernel_rfl) (fun w1 => (by kernel_rfl)) ?_; intro S' hS'; subst hS'
        refine Lin2.walk_end0 rfl ?_; intro w32 _ hI
        have HS33 : St w w32 [] [.row b22 (cellsOf (sha k)), .row b12 (cellsOf (tag k s))] := St.unbig (e := .big w25.heap.size) hI; clear hI HS26
        refine St.finQ (⟨#[.string (bstr k), .string (bstr s), .int .u8 (z.toNat : Int), undef, undef, undef, .bool true, .pointer (some ⟨b12, 0, none⟩), .pointer (some ⟨b22, 0, none⟩), .string (bstr k), .int .i64 (k.length : Int), .bool false, .bool false, .string (bstr s), .int .i64 (s.length : Int), .bool false, .bool false, .bool false, .bool true, .bool false, .bool false, undef, .string (bstr k), .string (bstr s), .agg (cellsOf (tag k s)).toArray, .string (bstr k), .int .i64 (k.length : Int), .bool (decide ((k.length : Int) > 64)), .string (bstr k), .agg (cellsOf (sha k)).toArray, .agg (cellsOf (tag k s)).toArray, .slice (some ⟨b22, 0, none⟩) 32 32, .string (bstr (sha k)), .string (bstr s), .agg (cellsOf (tag (sha k) s)).toArray, .bool true, undef, undef, undef, undef, undef, undef, undef, undef, undef, undef, undef, undef, undef, undef], []⟩) (by kernel_rfl) ?_
        refine St.then_n ?_
        refine wp_ret ?_
        refine St.then_r ?_
        refine bodyPost_ret (v := .bool true) (by kernel_rfl) rfl ?_
        -- end 0: [.row b22 (cellsOf (sha k)), .row b12 (cellsOf (tag k s))]
        exact ⟨rfl, HS33.only⟩
      · skip
        have q34 := of_decide_eq_false hc17
        refine wp_skip ?_
        refine St.then_n ?_
        refine wp_seq ?_
        refine Lin2.region_lin [0, 0, 0, 4, 0, 16, 48, 124, 252, 508, 1022, 0, 4094, 8191, 16383] [8] [] (fun _ => True) (St.StK w [] [[.row b12 (cellsOf (tag k s)), (.big w15.heap.size)]]) St.StK.quiet 50 (by kernel_rfl) rfl (by kernel_rfl) HS16.big.drew ?_
        refine Lin2.walk_read (.agg (cellsOf (tag k s)).toArray) 0 0 (by kernel_rfl) (by kernel_rfl) (by kernel_rfl) (by kernel_rfl) (by kernel_rfl) (by intro w1 k1 _ h1 h2 hI; obtain rfl : k1 = 0 := (by omega); have HS : St w w1 [] [.row b12 (cellsOf (tag k s)), (.big w15.heap.size)] := hI; exact (St.e_loads (i := 0) rfl (by kernel_rfl) _ Tryd.underlying24 rfl 32 rfl (HS.row 0 rfl) [] (cellsOf (tag k s)) [] (by first | with_reducible rfl | simp only [List.append_assoc, List.cons_append, List.nil_append, List.append_nil]) (by first | omega | (simp; omega) | simp) (by first | omega | (simp; omega) | simp))) ?_; intro S' hS'; subst hS'
        refine Lin2.walk_pure (.string (bstr k)) (by kernel_rfl) (by kernel_rfl) (by kernel_rfl) (fun w1 => (by kernel_rfl)) ?_; intro S' hS'; subst hS'
        refine Lin2.walk_pure (.int .u8 (z.toNat : Int)) (by kernel_rfl) (by kernel_rfl) (by kernel_rfl) (fun w1 => (by kernel_rfl)) ?_; intro S' hS'; subst hS'
        refine Lin2.walk_pure (.int .i64 (z.toNat : Int)) (by kernel_rfl) (by kernel_rfl) (by kernel_rfl) (fun w1 => (St.e_conv (k' := .u8) (a := (z.toNat : Int)) rfl Tryd.underlying5 Tryd.underlying3 (by kernel_rfl) (by rw [IntKind.wrap_i64]; have := (z).toNat_lt; omega))) ?_; intro S' hS'; subst hS'
        refine Lin2.walk_pure (.string (bstr k)) (by kernel_rfl) (by kernel_rfl) (by kernel_rfl) (fun w1 => (by kernel_rfl)) ?_; intro S' hS'; subst hS'
        refine Lin2.walk_pure (.int .i64 (k.length : Int)) (by kernel_rfl) (by kernel_rfl) (by kernel_rfl) (fun w1 => (St.e_len (l := k) 9 rfl Tryd.underlying9 (by kernel_rfl))) ?_; intro S' hS'; subst hS'
        refine Lin2.walk_pure (.int .i64 ((64 - k.length : Nat) : Int)) (by kernel_rfl) (by kernel_rfl) (by kernel_rfl) (fun w1 => (St.e_sub (a := 64) (b := (k.length : Int)) rfl (by kernel_rfl) (by kernel_rfl) (by rw [IntKind.wrap_i64]; omega))) ?_; intro S' hS'; subst hS'
        refine Lin2.walk_pure (.int .i64 ((min z.toNat (64 - k.length) : Nat) : Int)) (by kernel_rfl) (by kernel_rfl) (by kernel_rfl) (fun w1 => (St.e_min (a := ((z.toNat : Nat) : Int)) (b := ((64 - k.length : Nat) : Int)) rfl (by kernel_rfl) (by kernel_rfl) (St.min_nat _ _))) ?_; intro S' hS'; subst hS'
        refine St.walk_factS [] 44 (fun v_ w_ k_ => ∃ (b35 : Nat), v_ = .slice (some ⟨b35, 0, none⟩) (min z.toNat (64 - k.length)) (min z.toNat (64 - k.length)) ∧ w15.heap.size ≤ b35 ∧ Srow w_ 1 (some ⟨b35, 0, none⟩) (min z.toNat (64 - k.length)) (min z.toNat (64 - k.length)) (cellsOf (List.replicate (min z.toNat (64 - k.length)) 0)) (some b35)) 0 0 (by kernel_rfl) (by kernel_rfl) rfl (by kernel_rfl) (by kernel_rfl) (by kernel_rfl) (by kernel_rfl) (by kernel_rfl) (fun _ => by kernel_rfl) (fun v_ w_ w2_ k_ ⟨b35, h1, h2, h3⟩ hc => ⟨b35, h1, h2, Srow.keep h3 hc (fun _ _ h => h)⟩) (by intro f w1 k1 hF hC h1 h2 hI; exact St.gives.mono (St.g_mk (n := min z.toNat (64 - k.length)) rfl Tryd.underlying27 (.int .u8 0) 1 (by kernel_rfl) rfl (by kernel_rfl) (by kernel_rfl) (by first | omega | (simp; omega) | simp) (St.nil w1 []) (cellsOf (List.replicate (min z.toNat (64 - k.length)) 0)) (by first | rfl | simp [cellsOf])) (fun u w' ⟨b35, e1, e2, h⟩ => ⟨⟨b35, e1, Nat.le_trans hC.size e2, h.srow 0 rfl⟩, h.only⟩)) ?_; intro S' hS'; subst hS'
        refine St.walk_callS [44] (.string (bstr (List.replicate (min z.toNat (64 - k.length)) 0))) 0 0 (by kernel_rfl) (by kernel_rfl) (by kernel_rfl) (by kernel_rfl) (fun _ => by kernel_rfl) (by intro f w1 k1 hF _ h1 h2 hI; obtain ⟨b35, hv8, hl8, hr8⟩ := Lin2.fact1 (hF 8 (by decide) (by kernel_rfl)); rw [Lin2.over1, hv8]; obtain rfl : k1 = 0 := (by omega); have HS : St w w1 [] [.row b12 (cellsOf (tag k s)), (.big w15.heap.size)] := hI; exact St.ok_quiet (St.e_bss (l := List.replicate (min z.toNat (64 - k.length)) 0) rfl Tryd.underlying27 Tryd.underlying5 Tryd.underlying9 (by kernel_rfl) hr8)) ?_; intro S' hS'; subst hS'
        refine Lin2.walk_pure (.string (bstr (k ++ (List.replicate (min z.toNat (64 - k.length)) 0)))) (by kernel_rfl) (by kernel_rfl) (by kernel_rfl) (fun w1 => (St.e_cat (l := k) (m := List.replicate (min z.toNat (64 - k.length)) 0) rfl (by kernel_rfl) (by kernel_rfl) (by first | omega | (simp; omega) | simp))) ?_; intro S' hS'; subst hS'
        refine Lin2.walk_pure (.string (bstr s)) (by kernel_rfl) (by kernel_rfl) (by kernel_rfl) (fun w1 => (by kernel_rfl)) ?_; intro S' hS'; subst hS'
        refine St.walk_callS [] (.agg (cellsOf (tag (k ++ (List.replicate (min z.toNat (64 - k.length)) 0)) s)).toArray) 0 0 (by kernel_rfl) (by kernel_rfl) (by kernel_rfl) (by kernel_rfl) (fun _ => by kernel_rfl) (by intro f w1 k1 hF _ h1 h2 hI; obtain rfl : k1 = 0 := (by omega); have HS : St w w1 [] [.row b12 (cellsOf (tag k s)), (.big w15.heap.size)] := hI; refine St.g_call (by kernel_rfl) (Seal.tag_any (k ++ (List.replicate (min z.toNat (64 - k.length)) 0)) s (by first | omega | (simp; omega) | simp) (by first | omega | (simp; omega) | simp) w1 (hKT.keep HS.chg (by simp))) ?_; rintro _ w38 ⟨rfl, h39⟩; exact ⟨_, rfl, rfl, h39⟩) ?_; intro S' hS'; subst hS'
        refine Lin2.walk_pure (.bool true) (by kernel_rfl) (by kernel_rfl) (by kernel_rfl) (fun w1 => (St.vb (St.e_aeq (l := tag k s) (m := tag (k ++ (List.replicate (min z.toNat (64 - k.length)) 0)) s) rfl Tryd.underlying24 Tryd.underlying5 (fun _ => rfl) (by kernel_rfl) (by kernel_rfl) (by kernel_rfl) (by first | omega | (simp; omega) | simp) (by first | omega | (simp; omega) | simp)) (show ((tag k s) == (tag (k ++ (List.replicate (min z.toNat (64 - k.length)) 0)) s)) = true from (by rw [tag_zeros k s _ (by rw [Nat.min_def]; split <;> omega)]; exact beq_self_eq_true _)))) ?_; intro S' hS'; subst hS'
        refine Lin2.walk_pure (.bool true) (by kernel_rfl) (by kernel_rfl) (by kernel_rfl) (fun w1 => (by kernel_rfl)) ?_; intro S' hS'; subst hS'
        refine Lin2.walk_end1 [44] (by kernel_rfl) ?_; intro f43 w41 _ _ hI S' hS'; subst hS'
        have HS42 : St w w41 [] [.row b12 (cellsOf (tag k s))] := St.unbig (e := .big w15.heap.size) hI; clear hI HS16
        refine St.finQ (⟨#[.string (bstr k), .string (bstr s), .int .u8 (z.toNat : Int), undef, undef, undef, .bool true, .pointer (some ⟨b12, 0, none⟩), undef, .string (bstr k), .int .i64 (k.length : Int), .bool false, .bool false, .string (bstr s), .int .i64 (s.length : Int), .bool false, .bool false, .bool false, .bool true, .bool false, .bool false, undef, .string (bstr k), .string (bstr s), .agg (cellsOf (tag k s)).toArray, .string (bstr k), .int .i64 (k.length : Int), .bool (decide ((k.length : Int) > 64)), undef, undef, undef, undef, undef, undef, undef, undef, .agg (cellsOf (tag k s)).toArray, .string (bstr k), .int .u8 (z.toNat : Int), .int .i64 (z.toNat : Int), .string (bstr k), .int .i64 (k.length : Int), .int .i64 ((64 - k.length : Nat) : Int), .int .i64 ((min z.toNat (64 - k.length) : Nat) : Int), (f43 44), .string (bstr (List.replicate (min z.toNat (64 - k.length)) 0)), .string (bstr (k ++ (List.replicate (min z.toNat (64 - k.length)) 0))), .string (bstr s), .agg (cellsOf (tag (k ++ (List.replicate (min z.toNat (64 - k.length)) 0)) s)).toArray, .bool true], []⟩) (by kernel_rfl) ?_
        refine St.then_n ?_
        refine wp_ret ?_
        refine bodyPost_ret (v := .bool true) (by kernel_rfl) rfl ?_
        -- end 1: [.row b12 (cellsOf (tag k s))]
        exact ⟨rfl, HS42.only⟩
    · skip
      have q44 := of_decide_eq_true hg4
      refine St.rgn ?_
      refine St.sv (.string (bstr k)) rfl (by kernel_rfl) ?_
      refine St.sv (.int .i64 (k.length : Int)) rfl (St.e_len (l := k) 9 rfl Tryd.underlying9 (by kernel_rfl)) ?_
      refine St.sv (.bool false) rfl (St.vb (by kernel_rfl) hg2) ?_
      refine St.sv (.bool false) rfl (by kernel_rfl) ?_
      refine St.svq (.string (bstr s)) (by kernel_rfl) (by kernel_rfl) ?_
      refine St.svq (.int .i64 (s.length : Int)) (by kernel_rfl) (St.e_len (l := s) 9 rfl Tryd.underlying9 (by kernel_rfl)) ?_
      refine St.svq (.bool true) (by kernel_rfl) (St.vb (by kernel_rfl) hg4) ?_
      refine St.sv (.bool true) rfl (by kernel_rfl) ?_
      refine St.sv (.bool true) rfl (by kernel_rfl) ?_
      refine St.skip (by kernel_rfl) ?_
      refine St.skip (by kernel_rfl) ?_
      refine St.sv (.bool true) rfl (by kernel_rfl) ?_
      refine St.fin (⟨#[.string (bstr k), .string (bstr s), .int .u8 (z.toNat : Int), undef, undef, undef, .bool false, undef, undef, .string (bstr k), .int .i64 (k.length : Int), .bool false, .bool false, .string (bstr s), .int .i64 (s.length : Int), .bool true, .bool true, .bool true, undef, undef, .bool true, undef, undef, undef, undef, undef, undef, undef, undef, undef, undef, undef, undef, undef, undef, undef, undef, undef, undef, undef, undef, undef, undef, undef, undef, undef, undef, undef, undef, undef], []⟩) (by kernel_rfl) ?_
      refine St.then_n ?_
      refine wp_cond_true rfl ?_
      refine wp_seq ?_
      refine St.rgn ?_
      refine St.scall rfl (by kernel_rfl) (Seal.shown_any w (hKT.keep HS1.chg (by simp))) ?_
      rintro _ w45 ⟨rfl, h46⟩; refine ⟨_, rfl, ?_⟩
      have HS47 := HS1.quiet h46
      clear HS1
      refine St.sv (.bool true) rfl (by kernel_rfl) ?_
      refine St.fin (⟨#[.string (bstr k), .string (bstr s), .int .u8 (z.toNat : Int), undef, undef, undef, .bool true, undef, undef, .string (bstr k), .int .i64 (k.length : Int), .bool false, .bool false, .string (bstr s), .int .i64 (s.length : Int), .bool true, .bool true, .bool true, undef, undef, .bool true, .bool true, undef, undef, undef, undef, undef, undef, undef, undef, undef, undef, undef, undef, undef, undef, undef, undef, undef, undef, undef, undef, undef, undef, undef, undef, undef, undef, undef, undef], []⟩) (by kernel_rfl) ?_
      refine St.then_n ?_
      refine wp_ret ?_
      refine St.then_r ?_
      refine bodyPost_ret (v := .bool true) (by kernel_rfl) rfl ?_
      -- end 2: []
      exact ⟨rfl, HS47.only⟩
  · skip
    have q48 := of_decide_eq_true hg2
    refine St.rgn ?_
    refine St.sv (.string (bstr k)) rfl (by kernel_rfl) ?_
    refine St.sv (.int .i64 (k.length : Int)) rfl (St.e_len (l := k) 9 rfl Tryd.underlying9 (by kernel_rfl)) ?_
    refine St.sv (.bool true) rfl (St.vb (by kernel_rfl) hg2) ?_
    refine St.sv (.bool true) rfl (by kernel_rfl) ?_
    refine St.skip (by kernel_rfl) ?_
    refine St.skip (by kernel_rfl) ?_
    refine St.skip (by kernel_rfl) ?_
    refine St.sv (.bool true) rfl (by kernel_rfl) ?_
    refine St.sv (.bool true) rfl (by kernel_rfl) ?_
    refine St.skip (by kernel_rfl) ?_
    refine St.skip (by kernel_rfl) ?_
    refine St.sv (.bool true) rfl (by kernel_rfl) ?_
    refine St.fin (⟨#[.string (bstr k), .string (bstr s), .int .u8 (z.toNat : Int), undef, undef, undef, .bool false, undef, undef, .string (bstr k), .int .i64 (k.length : Int), .bool true, .bool true, undef, undef, undef, .bool true, .bool true, undef, undef, .bool true, undef, undef, undef, undef, undef, undef, undef, undef, undef, undef, undef, undef, undef, undef, undef, undef, undef, undef, undef, undef, undef, undef, undef, undef, undef, undef, undef, undef, undef], []⟩) (by kernel_rfl) ?_
    refine St.then_n ?_
    refine wp_cond_true rfl ?_
    refine wp_seq ?_
    refine St.rgn ?_
    refine St.scall rfl (by kernel_rfl) (Seal.shown_any w (hKT.keep HS1.chg (by simp))) ?_
    rintro _ w49 ⟨rfl, h50⟩; refine ⟨_, rfl, ?_⟩
    have HS51 := HS1.quiet h50
    clear HS1
    refine St.sv (.bool true) rfl (by kernel_rfl) ?_
    refine St.fin (⟨#[.string (bstr k), .string (bstr s), .int .u8 (z.toNat : Int), undef, undef, undef, .bool true, undef, undef, .string (bstr k), .int .i64 (k.length : Int), .bool true, .bool true, undef, undef, undef, .bool true, .bool true, undef, undef, .bool true, .bool true, undef, undef, undef, undef, undef, undef, undef, undef, undef, undef, undef, undef, undef, undef, undef, undef, undef, undef, undef, undef, undef, undef, undef, undef, undef, undef, undef, undef], []⟩) (by kernel_rfl) ?_
    refine St.then_n ?_
    refine wp_ret ?_
    refine St.then_r ?_
    refine bodyPost_ret (v := .bool true) (by kernel_rfl) rfl ?_
    -- end 3: []
    exact ⟨rfl, HS51.only⟩
set_option maxHeartbeats 8000000 in
theorem turned_law (k s : List UInt8) (a : UInt8) (hk : k.length ≤ 140737488351232) (hs : s.length ≤ 140737488351232) (w : World) (hKT : KTab w) :
    Calls Tryd.prog 6 #[.string (bstr k), .string (bstr s), .int .u8 (a.toNat : Int)] w fun r w' => r = .returned (.bool true) ∧ OnlyNew w w' := by
  refine calls_of_wp Tryd.func6 rfl ?_
  refine St.ent0 (⟨#[.string (bstr k), .string (bstr s), .int .u8 (a.toNat : Int), undef, undef, undef, undef, undef, undef, undef, undef, undef, undef, undef, undef, undef, undef, undef, undef, undef, undef, undef, undef, undef, undef, undef, undef, undef, undef, undef, undef, undef, undef, undef, undef, undef, undef, undef, undef, undef, undef, undef, undef, undef, undef, undef, undef, undef, undef, undef, undef, undef, undef, undef, undef, undef], []⟩) (by kernel_rfl) ?_
  have HS1 : St w w [] [] := St.nil _ _
  have ha := a.toNat_lt
  refine wp_seq ?_
  refine St.rgn ?_
  refine St.sv (.bool false) rfl (by kernel_rfl) ?_
  refine St.fin (⟨#[.string (bstr k), .string (bstr s), .int .u8 (a.toNat : Int), undef, undef, undef, .bool false, undef, undef, undef, undef, undef, undef, undef, undef, undef, undef, undef, undef, undef, undef, undef, undef, undef, undef, undef, undef, undef, undef, undef, undef, undef, undef, undef, undef, undef, undef, undef, undef, undef, undef, undef, undef, undef, undef, undef, undef, undef, undef, undef, undef, undef, undef, undef, undef, undef], []⟩) (by kernel_rfl) ?_
  refine St.then_n ?_
  refine wp_seq ?_
  refine wp_seq ?_
  cases hg2 : decide ((k.length : Int) > 100)
  · skip
    have q3 := of_decide_eq_false hg2
    cases hg4 : decide ((s.length : Int) > 300)
    · skip
      have q5 := of_decide_eq_false hg4
      refine St.rgn ?_
      refine St.sv (.string (bstr k)) rfl (by kernel_rfl) ?_
      refine St.sv (.int .i64 (k.length : Int)) rfl (St.e_len (l := k) 9 rfl Tryd.underlying9 (by kernel_rfl)) ?_
      refine St.sv (.bool false) rfl (St.vb (by kernel_rfl) hg2) ?_
      refine St.sv (.bool false) rfl (by kernel_rfl) ?_
      refine St.svq (.string (bstr s)) (by kernel_rfl) (by kernel_rfl) ?_
      refine St.svq (.int .i64 (s.length : Int)) (by kernel_rfl) (St.e_len (l := s) 9 rfl Tryd.underlying9 (by kernel_rfl)) ?_
      refine St.svq (.bool false) (by kernel_rfl) (St.vb (by kernel_rfl) hg4) ?_
      refine St.sv (.bool false) rfl (by kernel_rfl) ?_
      refine St.sv (.bool false) rfl (by kernel_rfl) ?_
      refine St.scallq (by kernel_rfl) (by kernel_rfl) (Seal.shown_any w (hKT.keep HS1.chg (by simp))) ?_
      rintro _ w6 ⟨rfl, h7⟩; refine ⟨_, rfl, ?_⟩
      have HS8 := HS1.quiet h7
      clear HS1
      refine St.svq (.bool false) (by kernel_rfl) (by kernel_rfl) ?_
      refine St.sv (.bool false) rfl (by kernel_rfl) ?_
      refine St.fin (⟨#[.string (bstr k), .string (bstr s), .int .u8 (a.toNat : Int), undef, undef, undef, .bool false, undef, undef, .string (bstr k), .int .i64 (k.length : Int), .bool false, .bool false, .string (bstr s), .int .i64 (s.length : Int), .bool false, .bool false, .bool false, .bool true, .bool false, .bool false, undef, undef, undef, undef, undef, undef, undef, undef, undef, undef, undef, undef, undef, undef, undef, undef, undef, undef, undef, undef, undef, undef, undef, undef, undef, undef, undef, undef, undef, undef, undef, undef, undef, undef, undef], []⟩) (by kernel_rfl) ?_
      refine St.then_n ?_
      refine wp_cond_false rfl ?_
      refine wp_skip ?_
      refine St.then_n ?_
      refine wp_seq ?_
      refine St.rgn ?_
      refine St.sv (.string (bstr k)) rfl (by kernel_rfl) ?_
      refine St.sv (.string (bstr s)) rfl (by kernel_rfl) ?_
      refine St.scall rfl (by kernel_rfl) (Seal.tag_any k s (by first | omega | (simp; omega) | simp) (by first | omega | (simp; omega) | simp) w6 (hKT.keep HS8.chg (by simp))) ?_
      rintro _ w9 ⟨rfl, h10⟩; refine ⟨_, rfl, ?_⟩
      have HS11 := HS8.quiet h10
      clear HS8
      refine St.sg rfl (St.g_alloc 24 rfl (cellsOf (List.replicate 32 0)) (by kernel_rfl) HS11) ?_
      rintro _ w13 ⟨b12, rfl, _, HS14⟩
      clear HS11
      refine St.sg rfl (St.g_stores (i := 0) rfl (by kernel_rfl) (cellsOf (tag k s)) (by kernel_rfl) (cellsOf_one _) 32 rfl HS14 0 rfl [] (cellsOf (List.replicate 32 0)) [] (by first | with_reducible rfl | simp only [List.append_assoc, List.cons_append, List.nil_append, List.append_nil]) (by first | omega | (simp; omega) | simp) (by first | omega | (simp; omega) | simp) (by first | omega | (simp; omega) | simp) (cellsOf (tag k s)) (by first | with_reducible rfl | simp only [List.append_assoc, List.cons_append, List.nil_append, List.append_nil])) ?_
      rintro _ w15 ⟨rfl, HS16⟩
      replace HS16 : St w w15 [] [.row b12 (cellsOf (tag k s))] := HS16
      clear HS14
      refine St.fin (⟨#[.string (bstr k), .string (bstr s), .int .u8 (a.toNat : Int), undef, undef, undef, .bool false, .pointer (some ⟨b12, 0, none⟩), undef, .string (bstr k), .int .i64 (k.length : Int), .bool false, .bool false, .string (bstr s), .int .i64 (s.length : Int), .bool false, .bool false, .bool false, .bool true, .bool false, .bool false, undef, .string (bstr k), .string (bstr s), .agg (cellsOf (tag k s)).toArray, undef, undef, undef, undef, undef, undef, undef, undef, undef, undef, undef, undef, undef, undef, undef, undef, undef, undef, undef, undef, undef, undef, undef, undef, undef, undef, undef, undef, undef, undef, undef], []⟩) (by kernel_rfl) ?_
      refine St.then_n ?_
      refine wp_seq ?_
      refine St.rgn ?_
      refine St.sv (.int .u8 (a.toNat : Int)) rfl (by kernel_rfl) ?_
      refine St.sv (.int .u8 ((a.toNat / 8 : Nat) : Int)) rfl (St.e_quo (a := (a.toNat : Int)) (b := 8) rfl (by kernel_rfl) (by kernel_rfl) (by omega) (St.quo_u8 _ _ (by omega))) ?_
      refine St.sv (.pointer (some ⟨b12, a.toNat / 8, none⟩)) rfl (St.e_ixa (k := .u8) (b := b12) (off := 0) (i := a.toNat / 8) rfl Tryd.underlying24 (size := 1) rfl (by kernel_rfl) (by kernel_rfl) (by first | omega | (simp; omega) | simp) (by first | rfl | omega)) ?_
      refine St.sv (.int .u8 (((tag k s).getD (a.toNat / 8) 0).toNat : Int)) rfl (St.e_load (i := a.toNat / 8) rfl (by kernel_rfl) rfl (HS16.row 0 rfl) (.int .u8 (((tag k s).getD (a.toNat / 8) 0).toNat : Int)) (St.getcell (by first | omega | (simp; omega) | simp))) ?_
      refine St.sv (.int .u8 (a.toNat : Int)) rfl (by kernel_rfl) ?_
      refine St.sv (.int .u8 ((a.toNat % 8 : Nat) : Int)) rfl (St.e_rem (a := (a.toNat : Int)) (b := 8) rfl (by kernel_rfl) (by kernel_rfl) (by omega) (St.rem_nat _ _)) ?_
      refine St.sv (.int .u8 ((St.shl8 (1 : UInt8) (a.toNat % 8)).toNat : Int)) rfl (St.e_shl (k' := .u8) (a := ((1 : UInt8).toNat : Int)) (b := ((a.toNat % 8 : Nat) : Int)) rfl (by kernel_rfl) (by kernel_rfl) (by omega) (St.shl8_any (1 : UInt8) (a.toNat % 8))) ?_
      refine St.sv (.int .u8 ((((tag k s).getD (a.toNat / 8) 0) ^^^ (St.shl8 (1 : UInt8) (a.toNat % 8))).toNat : Int)) rfl (St.e_xor (a := (((tag k s).getD (a.toNat / 8) 0).toNat : Int)) (b := ((St.shl8 (1 : UInt8) (a.toNat % 8)).toNat : Int)) rfl (by kernel_rfl) (by kernel_rfl) (St.w8_xor ((tag k s).getD (a.toNat / 8) 0) (St.shl8 (1 : UInt8) (a.toNat % 8)))) ?_
      refine St.sv (.pointer (some ⟨b12, a.toNat / 8, none⟩)) rfl (St.e_ixa (k := .u8) (b := b12) (off := 0) (i := a.toNat / 8) rfl Tryd.underlying24 (size := 1) rfl (by kernel_rfl) (by kernel_rfl) (by first | omega | (simp; omega) | simp) (by first | rfl | omega)) ?_
      refine St.sg rfl (St.g_store (i := a.toNat / 8) rfl (by kernel_rfl) (.int .u8 ((((tag k s).getD (a.toNat / 8) 0) ^^^ (St.shl8 (1 : UInt8) (a.toNat % 8))).toNat : Int)) (by kernel_rfl) rfl rfl HS16 0 rfl (by first | omega | (simp; omega) | simp) (cellsOf ((tag k s).set (a.toNat / 8) (((tag k s).getD (a.toNat / 8) 0) ^^^ (St.shl8 (1 : UInt8) (a.toNat % 8))))) (St.setcell _ _ _)) ?_
      rintro _ w17 ⟨rfl, HS18⟩
      replace HS18 : St w w17 [] [.row b12 (cellsOf ((tag k s).set (a.toNat / 8) (((tag k s).getD (a.toNat / 8) 0) ^^^ (St.shl8 (1 : UInt8) (a.toNat % 8)))))] := HS18
      clear HS16
      refine St.fin (⟨#[.string (bstr k), .string (bstr s), .int .u8 (a.toNat : Int), undef, undef, undef, .bool false, .pointer (some ⟨b12, 0, none⟩), undef, .string (bstr k), .int .i64 (k.length : Int), .bool false, .bool false, .string (bstr s), .int .i64 (s.length : Int), .bool false, .bool false, .bool false, .bool true, .bool false, .bool false, undef, .string (bstr k), .string (bstr s), .agg (cellsOf (tag k s)).toArray, .int .u8 (a.toNat : Int), .int .u8 ((a.toNat / 8 : Nat) : Int), .pointer (some ⟨b12, a.toNat / 8, none⟩), .int .u8 (((tag k s).getD (a.toNat / 8) 0).toNat : Int), .int .u8 (a.toNat : Int), .int .u8 ((a.toNat % 8 : Nat) : Int), .int .u8 ((St.shl8 (1 : UInt8) (a.toNat % 8)).toNat : Int), .int .u8 ((((tag k s).getD (a.toNat / 8) 0) ^^^ (St.shl8 (1 : UInt8) (a.toNat % 8))).toNat : Int), .pointer (some ⟨b12, a.toNat / 8, none⟩), undef, undef, undef, undef, undef, undef, undef, undef, undef, undef, undef, undef, undef, undef, undef, undef, undef, undef, undef, undef, undef, undef], []⟩) (by kernel_rfl) ?_
      refine St.then_n ?_
      refine wp_seq ?_
      refine St.rgn ?_
      refine St.sv (.agg (cellsOf ((tag k s).set (a.toNat / 8) (((tag k s).getD (a.toNat / 8) 0) ^^^ (St.shl8 (1 : UInt8) (a.toNat % 8))))).toArray) rfl (St.e_loads (i := 0) rfl (by kernel_rfl) _ Tryd.underlying24 rfl 32 rfl (HS18.row 0 rfl) [] (cellsOf ((tag k s).set (a.toNat / 8) (((tag k s).getD (a.toNat / 8) 0) ^^^ (St.shl8 (1 : UInt8) (a.toNat % 8))))) [] (by first | with_reducible rfl | simp only [List.append_assoc, List.cons_append, List.nil_append, List.append_nil]) (by first | omega | (simp; omega) | simp) (by first | omega | (simp; omega) | simp)) ?_
      refine St.scall rfl (by kernel_rfl) (Seal.of_any ((tag k s).set (a.toNat / 8) (((tag k s).getD (a.toNat / 8) 0) ^^^ (St.shl8 (1 : UInt8) (a.toNat % 8)))) (by first | omega | (simp; omega) | simp) w17 (hKT.keep HS18.chg (by simp))) ?_
      rintro _ w19 ⟨rfl, h20⟩; refine ⟨_, rfl, ?_⟩
      have HS21 := HS18.quiet h20
      clear HS18
      refine St.sg rfl (St.g_alloc 24 rfl (cellsOf (List.replicate 32 0)) (by kernel_rfl) HS21) ?_
      rintro _ w23 ⟨b22, rfl, _, HS24⟩
      clear HS21
      refine St.sg rfl (St.g_stores (i := 0) rfl (by kernel_rfl) (cellsOf (sha ((tag k s).set (a.toNat / 8) (((tag k s).getD (a.toNat / 8) 0) ^^^ (St.shl8 (1 : UInt8) (a.toNat % 8)))))) (by kernel_rfl) (cellsOf_one _) 32 rfl HS24 0 rfl [] (cellsOf (List.replicate 32 0)) [] (by first | with_reducible rfl | simp only [List.append_assoc, List.cons_append, List.nil_append, List.append_nil]) (by first | omega | (simp; omega) | simp) (by first | omega | (simp; omega) | simp) (by first | omega | (simp; omega) | simp) (cellsOf (sha ((tag k s).set (a.toNat / 8) (((tag k s).getD (a.toNat / 8) 0) ^^^ (St.shl8 (1 : UInt8) (a.toNat % 8)))))) (by first | with_reducible rfl | simp only [List.append_assoc, List.cons_append, List.nil_append, List.append_nil])) ?_
      rintro _ w25 ⟨rfl, HS26⟩
      replace HS26 : St w w25 [] [.row b22 (cellsOf (sha ((tag k s).set (a.toNat / 8) (((tag k s).getD (a.toNat / 8) 0) ^^^ (St.shl8 (1 : UInt8) (a.toNat % 8)))))), .row b12 (cellsOf ((tag k s).set (a.toNat / 8) (((tag k s).getD (a.toNat / 8) 0) ^^^ (St.shl8 (1 : UInt8) (a.toNat % 8)))))] := HS26
      clear HS24
      refine St.fin (⟨#[.string (bstr k), .string (bstr s), .int .u8 (a.toNat : Int), undef, undef, undef, .bool false, .pointer (some ⟨b12, 0, none⟩), .pointer (some ⟨b22, 0, none⟩), .string (bstr k), .int .i64 (k.length : Int), .bool false, .bool false, .string (bstr s), .int .i64 (s.length : Int), .bool false, .bool false, .bool false, .bool true, .bool false, .bool false, undef, .string (bstr k), .string (bstr s), .agg (cellsOf (tag k s)).toArray, .int .u8 (a.toNat : Int), .int .u8 ((a.toNat / 8 : Nat) : Int), .pointer (some ⟨b12, a.toNat / 8, none⟩), .int .u8 (((tag k s).getD (a.toNat / 8) 0).toNat : Int), .int .u8 (a.toNat : Int), .int .u8 ((a.toNat % 8 : Nat) : Int), .int .u8 ((St.shl8 (1 : UInt8) (a.toNat % 8)).toNat : Int), .int .u8 ((((tag k s).getD (a.toNat / 8) 0) ^^^ (St.shl8 (1 : UInt8) (a.toNat % 8))).toNat : Int), .pointer (some ⟨b12, a.toNat / 8, none⟩), .agg (cellsOf ((tag k s).set (a.toNat / 8) (((tag k s).getD (a.toNat / 8) 0) ^^^ (St.shl8 (1 : UInt8) (a.toNat % 8))))).toArray, .agg (cellsOf (sha ((tag k s).set (a.toNat / 8) (((tag k s).getD (a.toNat / 8) 0) ^^^ (St.shl8 (1 : UInt8) (a.toNat % 8)))))).toArray, undef, undef, undef, undef, undef, undef, undef, undef, undef, undef, undef, undef, undef, undef, undef, undef, undef, undef, undef, undef], []⟩) (by kernel_rfl) ?_
      refine St.then_n ?_
      refine wp_seq ?_
      refine St.rgn ?_
      refine St.sv (.int .u8 (a.toNat : Int)) rfl (by kernel_rfl) ?_
      refine St.sv (.int .u8 ((a.toNat / 8 : Nat) : Int)) rfl (St.e_quo (a := (a.toNat : Int)) (b := 8) rfl (by kernel_rfl) (by kernel_rfl) (by omega) (St.quo_u8 _ _ (by omega))) ?_
      refine St.sv (.pointer (some ⟨b22, a.toNat / 8, none⟩)) rfl (St.e_ixa (k := .u8) (b := b22) (off := 0) (i := a.toNat / 8) rfl Tryd.underlying24 (size := 1) rfl (by kernel_rfl) (by kernel_rfl) (by first | omega | (simp; omega) | simp) (by first | rfl | omega)) ?_
      refine St.sv (.int .u8 (((sha ((tag k s).set (a.toNat / 8) (((tag k s).getD (a.toNat / 8) 0) ^^^ (St.shl8 (1 : UInt8) (a.toNat % 8))))).getD (a.toNat / 8) 0).toNat : Int)) rfl (St.e_load (i := a.toNat / 8) rfl (by kernel_rfl) rfl (HS26.row 0 rfl) (.int .u8 (((sha ((tag k s).set (a.toNat / 8) (((tag k s).getD (a.toNat / 8) 0) ^^^ (St.shl8 (1 : UInt8) (a.toNat % 8))))).getD (a.toNat / 8) 0).toNat : Int)) (St.getcell (by first | omega | (simp; omega) | simp))) ?_
      refine St.sv (.int .u8 (a.toNat : Int)) rfl (by kernel_rfl) ?_
      refine St.sv (.int .u8 ((a.toNat % 8 : Nat) : Int)) rfl (St.e_rem (a := (a.toNat : Int)) (b := 8) rfl (by kernel_rfl) (by kernel_rfl) (by omega) (St.rem_nat _ _)) ?_
      refine St.sv (.int .u8 ((St.shl8 (1 : UInt8) (a.toNat % 8)).toNat : Int)) rfl (St.e_shl (k' := .u8) (a := ((1 : UInt8).toNat : Int)) (b := ((a.toNat % 8 : Nat) : Int)) rfl (by kernel_rfl) (by kernel_rfl) (by omega) (St.shl8_any (1 : UInt8) (a.toNat % 8))) ?_
      refine St.sv (.int .u8 ((((sha ((tag k s).set (a.toNat / 8) (((tag k s).getD (a.toNat / 8) 0) ^^^ (St.shl8 (1 : UInt8) (a.toNat % 8))))).getD (a.toNat / 8) 0) ^^^ (St.shl8 (1 : UInt8) (a.toNat % 8))).toNat : Int)) rfl (St.e_xor (a := (((sha ((tag k s).set (a.toNat / 8) (((tag k s).getD (a.toNat / 8) 0) ^^^ (St.shl8 (1 : UInt8) (a.toNat % 8))))).getD (a.toNat / 8) 0).toNat : Int)) (b := ((St.shl8 (1 : UInt8) (a.toNat % 8)).toNat : Int)) rfl (by kernel_rfl) (by kernel_rfl) (St.w8_xor ((sha ((tag k s).set (a.toNat / 8) (((tag k s).getD (a.toNat / 8) 0) ^^^ (St.shl8 (1 : UInt8) (a.toNat % 8))))).getD (a.toNat / 8) 0) (St.shl8 (1 : UInt8) (a.toNat % 8)))) ?_
      refine St.sv (.pointer (some ⟨b22, a.toNat / 8, none⟩)) rfl (St.e_ixa (k := .u8) (b := b22) (off := 0) (i := a.toNat / 8) rfl Tryd.underlying24 (size := 1) rfl (by kernel_rfl) (by kernel_rfl) (by first | omega | (simp; omega) | simp) (by first | rfl | omega)) ?_
      refine St.sg rfl (St.g_store (i := a.toNat / 8) rfl (by kernel_rfl) (.int .u8 ((((sha ((tag k s).set (a.toNat / 8) (((tag k s).getD (a.toNat / 8) 0) ^^^ (St.shl8 (1 : UInt8) (a.toNat % 8))))).getD (a.toNat / 8) 0) ^^^ (St.shl8 (1 : UInt8) (a.toNat % 8))).toNat : Int)) (by kernel_rfl) rfl rfl HS26 0 rfl (by first | omega | (simp; omega) | simp) (cellsOf ((sha ((tag k s).set (a.toNat / 8) (((tag k s).getD (a.toNat / 8) 0) ^^^ (St.shl8 (1 : UInt8) (a.toNat % 8))))).set (a.toNat / 8) (((sha ((tag k s).set (a.toNat / 8) (((tag k s).getD (a.toNat / 8) 0) ^^^ (St.shl8 (1 : UInt8) (a.toNat % 8))))).getD (a.toNat / 8) 0) ^^^ (St.shl8 (1 : UInt8) (a.toNat % 8))))) (St.setcell _ _ _)) ?_
      rintro _ w27 ⟨rfl, HS28⟩
      replace HS28 : St w w27 [] [.row b22 (cellsOf ((sha ((tag k s).set (a.toNat / 8) (((tag k s).getD (a.toNat / 8) 0) ^^^ (St.shl8 (1 : UInt8) (a.toNat % 8))))).set (a.toNat / 8) (((sha ((tag k s).set (a.toNat / 8) (((tag k s).getD (a.toNat / 8) 0) ^^^ (St.shl8 (1 : UInt8) (a.toNat % 8))))).getD (a.toNat / 8) 0) ^^^ (St.shl8 (1 : UInt8) (a.toNat % 8))))), .row b12 (cellsOf ((tag k s).set (a.toNat / 8) (((tag k s).getD (a.toNat / 8) 0) ^^^ (St.shl8 (1 : UInt8) (a.toNat % 8)))))] := HS28
      clear HS26
      refine St.fin (⟨#[.string (bstr k), .string (bstr s), .int .u8 (a.toNat : Int), undef, undef, undef, .bool false, .pointer (some ⟨b12, 0, none⟩), .pointer (some ⟨b22, 0, none⟩), .string (bstr k), .int .i64 (k.length : Int), .bool false, .bool false, .string (bstr s), .int .i64 (s.length : Int), .bool false, .bool false, .bool false, .bool true, .bool false, .bool false, undef, .string (bstr k), .string (bstr s), .agg (cellsOf (tag k s)).toArray, .int .u8 (a.toNat : Int), .int .u8 ((a.toNat / 8 : Nat) : Int), .pointer (some ⟨b12, a.toNat / 8, none⟩), .int .u8 (((tag k s).getD (a.toNat / 8) 0).toNat : Int), .int .u8 (a.toNat : Int), .int .u8 ((a.toNat % 8 : Nat) : Int), .int .u8 ((St.shl8 (1 : UInt8) (a.toNat % 8)).toNat : Int), .int .u8 ((((tag k s).getD (a.toNat / 8) 0) ^^^ (St.shl8 (1 : UInt8) (a.toNat % 8))).toNat : Int), .pointer (some ⟨b12, a.toNat / 8, none⟩), .agg (cellsOf ((tag k s).set (a.toNat / 8) (((tag k s).getD (a.toNat / 8) 0) ^^^ (St.shl8 (1 : UInt8) (a.toNat % 8))))).toArray, .agg (cellsOf (sha ((tag k s).set (a.toNat / 8) (((tag k s).getD (a.toNat / 8) 0) ^^^ (St.shl8 (1 : UInt8) (a.toNat % 8)))))).toArray, .int .u8 (a.toNat : Int), .int .u8 ((a.toNat / 8 : Nat) : Int), .pointer (some ⟨b22, a.toNat / 8, none⟩), .int .u8 (((sha ((tag k s).set (a.toNat / 8) (((tag k s).getD (a.toNat / 8) 0) ^^^ (St.shl8 (1 : UInt8) (a.toNat % 8))))).getD (a.toNat / 8) 0).toNat : Int), .int .u8 (a.toNat : Int), .int .u8 ((a.toNat % 8 : Nat) : Int), .int .u8 ((St.shl8 (1 : UInt8) (a.toNat % 8)).toNat : Int), .int .u8 ((((sha ((tag k s).set (a.toNat / 8) (((tag k s).getD (a.toNat / 8) 0) ^^^ (St.shl8 (1 : UInt8) (a.toNat % 8))))).getD (a.toNat / 8) 0) ^^^ (St.shl8 (1 : UInt8) (a.toNat % 8))).toNat : Int), .pointer (some ⟨b22, a.toNat / 8, none⟩), undef, undef, undef, undef, undef, undef, undef, undef, undef, undef, undef], []⟩) (by kernel_rfl) ?_
      refine St.then_n ?_
      refine wp_seq ?_
      refine St.rgn ?_
      refine St.sv (.string (bstr k)) rfl (by kernel_rfl) ?_
      refine St.sv (.string (bstr s)) rfl (by kernel_rfl) ?_
      refine St.sv (.agg (cellsOf ((tag k s).set (a.toNat / 8) (((tag k s).getD (a.toNat / 8) 0) ^^^ (St.shl8 (1 : UInt8) (a.toNat % 8))))).toArray) rfl (St.e_loads (i := 0) rfl (by kernel_rfl) _ Tryd.underlying24 rfl 32 rfl (HS28.row 1 rfl) [] (cellsOf ((tag k s).set (a.toNat / 8) (((tag k s).getD (a.toNat / 8) 0) ^^^ (St.shl8 (1 : UInt8) (a.toNat % 8))))) [] (by first | with_reducible rfl | simp only [List.append_assoc, List.cons_append, List.nil_append, List.append_nil]) (by first | omega | (simp; omega) | simp) (by first | omega | (simp; omega) | simp)) ?_
      refine St.scall rfl (by kernel_rfl) (Seal.right_any k s ((tag k s).set (a.toNat / 8) (((tag k s).getD (a.toNat / 8) 0) ^^^ (St.shl8 (1 : UInt8) (a.toNat % 8)))) (by first | omega | (simp; omega) | simp) (by first | omega | (simp; omega) | simp) (by first | omega | (simp; omega) | simp) w27 (hKT.keep HS28.chg (by simp))) ?_
      rintro _ w29 ⟨rfl, h30⟩; refine ⟨.bool false, congrArg (fun b => Ending.returned (.bool b)) (show (tag k s == ((tag k s).set (a.toNat / 8) (((tag k s).getD (a.toNat / 8) 0) ^^^ (St.shl8 (1 : UInt8) (a.toNat % 8))))) = false from (show (tag k s == ((tag k s).set (a.toNat / 8) (((tag k s).getD (a.toNat / 8) 0) ^^^ (St.shl8 (1 : UInt8) (a.toNat % 8))))) = false from (flip_ne _ _ (by simp only [tag_length, sha_length]; omega) _ (shl8_ne _ (by omega))))), ?_⟩
      have HS31 := HS28.quiet h30
      clear HS28
      refine St.sv (.bool true) rfl (by kernel_rfl) ?_
      refine St.sv (.bool true) rfl (by kernel_rfl) ?_
      refine St.svq (.agg (cellsOf ((tag k s).set (a.toNat / 8) (((tag k s).getD (a.toNat / 8) 0) ^^^ (St.shl8 (1 : UInt8) (a.toNat % 8))))).toArray) (by kernel_rfl) (St.e_loads (i := 0) rfl (by kernel_rfl) _ Tryd.underlying24 rfl 32 rfl (HS31.row 1 rfl) [] (cellsOf ((tag k s).set (a.toNat / 8) (((tag k s).getD (a.toNat / 8) 0) ^^^ (St.shl8 (1 : UInt8) (a.toNat % 8))))) [] (by first | with_reducible rfl | simp only [List.append_assoc, List.cons_append, List.nil_append, List.append_nil]) (by first | omega | (simp; omega) | simp) (by first | omega | (simp; omega) | simp)) ?_
      refine St.svq (.agg (cellsOf ((sha ((tag k s).set (a.toNat / 8) (((tag k s).getD (a.toNat / 8) 0) ^^^ (St.shl8 (1 : UInt8) (a.toNat % 8))))).set (a.toNat / 8) (((sha ((tag k s).set (a.toNat / 8) (((tag k s).getD (a.toNat / 8) 0) ^^^ (St.shl8 (1 : UInt8) (a.toNat % 8))))).getD (a.toNat / 8) 0) ^^^ (St.shl8 (1 : UInt8) (a.toNat % 8))))).toArray) (by kernel_rfl) (St.e_loads (i := 0) rfl (by kernel_rfl) _ Tryd.underlying24 rfl 32 rfl (HS31.row 0 rfl) [] (cellsOf ((sha ((tag k s).set (a.toNat / 8) (((tag k s).getD (a.toNat / 8) 0) ^^^ (St.shl8 (1 : UInt8) (a.toNat % 8))))).set (a.toNat / 8) (((sha ((tag k s).set (a.toNat / 8) (((tag k s).getD (a.toNat / 8) 0) ^^^ (St.shl8 (1 : UInt8) (a.toNat % 8))))).getD (a.toNat / 8) 0) ^^^ (St.shl8 (1 : UInt8) (a.toNat % 8))))) [] (by first | with_reducible rfl | simp only [List.append_assoc, List.cons_append, List.nil_append, List.append_nil]) (by first | omega | (simp; omega) | simp) (by first | omega | (simp; omega) | simp)) ?_
      refine St.scallq (by kernel_rfl) (by kernel_rfl) (Seal.opens_any ((tag k s).set (a.toNat / 8) (((tag k s).getD (a.toNat / 8) 0) ^^^ (St.shl8 (1 : UInt8) (a.toNat % 8)))) ((sha ((tag k s).set (a.toNat / 8) (((tag k s).getD (a.toNat / 8) 0) ^^^ (St.shl8 (1 : UInt8) (a.toNat % 8))))).set (a.toNat / 8) (((sha ((tag k s).set (a.toNat / 8) (((tag k s).getD (a.toNat / 8) 0) ^^^ (St.shl8 (1 : UInt8) (a.toNat % 8))))).getD (a.toNat / 8) 0) ^^^ (St.shl8 (1 : UInt8) (a.toNat % 8)))) (by first | omega | (simp; omega) | simp) (by first | omega | (simp; omega) | simp) w29 (hKT.keep HS31.chg (by simp))) ?_
      rintro _ w32 ⟨rfl, h33⟩; refine ⟨.bool false, congrArg (fun b => Ending.returned (.bool b)) (show (sha ((tag k s).set (a.toNat / 8) (((tag k s).getD (a.toNat / 8) 0) ^^^ (St.shl8 (1 : UInt8) (a.toNat % 8)))) == ((sha ((tag k s).set (a.toNat / 8) (((tag k s).getD (a.toNat / 8) 0) ^^^ (St.shl8 (1 : UInt8) (a.toNat % 8))))).set (a.toNat / 8) (((sha ((tag k s).set (a.toNat / 8) (((tag k s).getD (a.toNat / 8) 0) ^^^ (St.shl8 (1 : UInt8) (a.toNat % 8))))).getD (a.toNat / 8) 0) ^^^ (St.shl8 (1 : UInt8) (a.toNat % 8))))) = false from (show (sha ((tag k s).set (a.toNat / 8) (((tag k s).getD (a.toNat / 8) 0) ^^^ (St.shl8 (1 : UInt8) (a.toNat % 8)))) == ((sha ((tag k s).set (a.toNat / 8) (((tag k s).getD (a.toNat / 8) 0) ^^^ (St.shl8 (1 : UInt8) (a.toNat % 8))))).set (a.toNat / 8) (((sha ((tag k s).set (a.toNat / 8) (((tag k s).getD (a.toNat / 8) 0) ^^^ (St.shl8 (1 : UInt8) (a.toNat % 8))))).getD (a.toNat / 8) 0) ^^^ (St.shl8 (1 : UInt8) (a.toNat % 8))))) = false from (flip_ne _ _ (by simp only [tag_length, sha_length]; omega) _ (shl8_ne _ (by omega))))), ?_⟩
      have HS34 := HS31.quiet h33
      clear HS31
      refine St.svq (.bool true) (by kernel_rfl) (by kernel_rfl) ?_
      refine St.sv (.bool true) rfl (by kernel_rfl) ?_
      refine St.sv (.bool true) rfl (by kernel_rfl) ?_
      refine St.fin (⟨#[.string (bstr k), .string (bstr s), .int .u8 (a.toNat : Int), undef, undef, undef, .bool true, .pointer (some ⟨b12, 0, none⟩), .pointer (some ⟨b22, 0, none⟩), .string (bstr k), .int .i64 (k.length : Int), .bool false, .bool false, .string (bstr s), .int .i64 (s.length : Int), .bool false, .bool false, .bool false, .bool true, .bool false, .bool false, undef, .string (bstr k), .string (bstr s), .agg (cellsOf (tag k s)).toArray, .int .u8 (a.toNat : Int), .int .u8 ((a.toNat / 8 : Nat) : Int), .pointer (some ⟨b12, a.toNat / 8, none⟩), .int .u8 (((tag k s).getD (a.toNat / 8) 0).toNat : Int), .int .u8 (a.toNat : Int), .int .u8 ((a.toNat % 8 : Nat) : Int), .int .u8 ((St.shl8 (1 : UInt8) (a.toNat % 8)).toNat : Int), .int .u8 ((((tag k s).getD (a.toNat / 8) 0) ^^^ (St.shl8 (1 : UInt8) (a.toNat % 8))).toNat : Int), .pointer (some ⟨b12, a.toNat / 8, none⟩), .agg (cellsOf ((tag k s).set (a.toNat / 8) (((tag k s).getD (a.toNat / 8) 0) ^^^ (St.shl8 (1 : UInt8) (a.toNat % 8))))).toArray, .agg (cellsOf (sha ((tag k s).set (a.toNat / 8) (((tag k s).getD (a.toNat / 8) 0) ^^^ (St.shl8 (1 : UInt8) (a.toNat % 8)))))).toArray, .int .u8 (a.toNat : Int), .int .u8 ((a.toNat / 8 : Nat) : Int), .pointer (some ⟨b22, a.toNat / 8, none⟩), .int .u8 (((sha ((tag k s).set (a.toNat / 8) (((tag k s).getD (a.toNat / 8) 0) ^^^ (St.shl8 (1 : UInt8) (a.toNat % 8))))).getD (a.toNat / 8) 0).toNat : Int), .int .u8 (a.toNat : Int), .int .u8 ((a.toNat % 8 : Nat) : Int), .int .u8 ((St.shl8 (1 : UInt8) (a.toNat % 8)).toNat : Int), .int .u8 ((((sha ((tag k s).set (a.toNat / 8) (((tag k s).getD (a.toNat / 8) 0) ^^^ (St.shl8 (1 : UInt8) (a.toNat % 8))))).getD (a.toNat / 8) 0) ^^^ (St.shl8 (1 : UInt8) (a.toNat % 8))).toNat : Int), .pointer (some ⟨b22, a.toNat / 8, none⟩), .string (bstr k), .string (bstr s), .agg (cellsOf ((tag k s).set (a.toNat / 8) (((tag k s).getD (a.toNat / 8) 0) ^^^ (St.shl8 (1 : UInt8) (a.toNat % 8))))).toArray, .bool false, .bool true, .bool true, .agg (cellsOf ((tag k s).set (a.toNat / 8) (((tag k s).getD (a.toNat / 8) 0) ^^^ (St.shl8 (1 : UInt8) (a.toNat % 8))))).toArray, .agg (cellsOf ((sha ((tag k s).set (a.toNat / 8) (((tag k s).getD (a.toNat / 8) 0) ^^^ (St.shl8 (1 : UInt8) (a.toNat % 8))))).set (a.toNat / 8) (((sha ((tag k s).set (a.toNat / 8) (((tag k s).getD (a.toNat / 8) 0) ^^^ (St.shl8 (1 : UInt8) (a.toNat % 8))))).getD (a.toNat / 8) 0) ^^^ (St.shl8 (1 : UInt8) (a.toNat % 8))))).toArray, .bool false, .bool true, .bool true], []⟩) (by kernel_rfl) ?_
      refine St.then_n ?_
      refine wp_ret ?_
      refine bodyPost_ret (v := .bool true) (by kernel_rfl) rfl ?_
      -- end 0: [.row b22 (cellsOf ((sha ((tag k s).set (a.toNat / 8) (((tag k s).getD (a.toNat / 8) 0) ^^^ (St.shl8 (1 : UInt8) (a.toNat % 8))))).set (a.toNat / 8) (((sha ((tag k s).set (a.toNat / 8) (((tag k s).getD (a.toNat / 8) 0) ^^^ (St.shl8 (1 : UInt8) (a.toNat % 8))))).getD (a.toNat / 8) 0) ^^^ (St.shl8 (1 : UInt8) (a.toNat % 8))))), .row b12 (cellsOf ((tag k s).set (a.toNat / 8) (((tag k s).getD (a.toNat / 8) 0) ^^^ (St.shl8 (1 : UInt8) (a.toNat % 8)))))]
      exact ⟨rfl, HS34.only⟩
    · skip
      have q35 := of_decide_eq_true hg4
      refine St.rgn ?_
      refine St.sv (.string (bstr k)) rfl (by kernel_rfl) ?_
      refine St.sv (.int .i64 (k.length : Int)) rfl (St.e_len (l := k) 9 rfl Tryd.underlying9 (by kernel_rfl)) ?_
      refine St.sv (.bool false) rfl (St.vb (by kernel_rfl) hg2) ?_
      refine St.sv (.bool false) rfl (by kernel_rfl) ?_
      refine St.svq (.string (bstr s)) (by kernel_rfl) (by kernel_rfl) ?_
      refine St.svq (.int .i64 (s.length : Int)) (by kernel_rfl) (St.e_len (l := s) 9 rfl Tryd.underlying9 (by kernel_rfl)) ?_
      refine St.svq (.bool true) (by kernel_rfl) (St.vb (by kernel_rfl) hg4) ?_
      refine St.sv (.bool true) rfl (by kernel_rfl) ?_
      refine St.sv (.bool true) rfl (by kernel_rfl) ?_
      refine St.skip (by kernel_rfl) ?_
      refine St.skip (by kernel_rfl) ?_
      refine St.sv (.bool true) rfl (by kernel_rfl) ?_
      refine St.fin (⟨#[.string (bstr k), .string (bstr s), .int .u8 (a.toNat : Int), undef, undef, undef, .bool false, undef, undef, .string (bstr k), .int .i64 (k.length : Int), .bool false, .bool false, .string (bstr s), .int .i64 (s.length : Int), .bool true, .bool true, .bool true, undef, undef, .bool true, undef, undef, undef, undef, undef, undef, undef, undef, undef, undef, undef, undef, undef, undef, undef, undef, undef, undef, undef, undef, undef, undef, undef, undef, undef, undef, undef, undef, undef, undef, undef, undef, undef, undef, undef], []⟩) (by kernel_rfl) ?_
      refine St.then_n ?_
      refine wp_cond_true rfl ?_
      refine wp_seq ?_
      refine St.rgn ?_
      refine St.scall rfl (by kernel_rfl) (Seal.shown_any w (hKT.keep HS1.chg (by simp))) ?_
      rintro _ w36 ⟨rfl, h37⟩; refine ⟨_, rfl, ?_⟩
      have HS38 := HS1.quiet h37
      clear HS1
      refine St.sv (.bool true) rfl (by kernel_rfl) ?_
      refine St.fin (⟨#[.string (bstr k), .string (bstr s), .int .u8 (a.toNat : Int), undef, undef, undef, .bool true, undef, undef, .string (bstr k), .int .i64 (k.length : Int), .bool false, .bool false, .string (bstr s), .int .i64 (s.length : Int), .bool true, .bool true, .bool true, undef, undef, .bool true, .bool true, undef, undef, undef, undef, undef, undef, undef, undef, undef, undef, undef, undef, undef, undef, undef, undef, undef, undef, undef, undef, undef, undef, undef, undef, undef, undef, undef, undef, undef, undef, undef, undef, undef, undef], []⟩) (by kernel_rfl) ?_
      refine St.then_n ?_
      refine wp_ret ?_
      refine St.then_r ?_
      refine bodyPost_ret (v := .bool true) (by kernel_rfl) rfl ?_
      -- end 1: []
      exact ⟨rfl, HS38.only⟩
  · skip
    have q39 := of_decide_eq_true hg2
    refine St.rgn ?_
    refine St.sv (.string (bstr k)) rfl (by kernel_rfl) ?_
    refine St.sv (.int .i64 (k.length : Int)) rfl (St.e_len (l := k) 9 rfl Tryd.underlying9 (by kernel_rfl)) ?_
    refine St.sv (.bool true) rfl (St.vb (by kernel_rfl) hg2) ?_
    refine St.sv (.bool true) rfl (by kernel_rfl) ?_
    refine St.skip (by kernel_rfl) ?_
    refine St.skip (by kernel_rfl) ?_
    refine St.skip (by kernel_rfl) ?_
    refine St.sv (.bool true) rfl (by kernel_rfl) ?_
    refine St.sv (.bool true) rfl (by kernel_rfl) ?_
    refine St.skip (by kernel_rfl) ?_
    refine St.skip (by kernel_rfl) ?_
    refine St.sv (.bool true) rfl (by kernel_rfl) ?_
    refine St.fin (⟨#[.string (bstr k), .string (bstr s), .int .u8 (a.toNat : Int), undef, undef, undef, .bool false, undef, undef, .string (bstr k), .int .i64 (k.length : Int), .bool true, .bool true, undef, undef, undef, .bool true, .bool true, undef, undef, .bool true, undef, undef, undef, undef, undef, undef, undef, undef, undef, undef, undef, undef, undef, undef, undef, undef, undef, undef, undef, undef, undef, undef, undef, undef, undef, undef, undef, undef, undef, undef, undef, undef, undef, undef, undef], []⟩) (by kernel_rfl) ?_
    refine St.then_n ?_
    refine wp_cond_true rfl ?_
    refine wp_seq ?_
    refine St.rgn ?_
    refine St.scall rfl (by kernel_rfl) (Seal.shown_any w (hKT.keep HS1.chg (by simp))) ?_
    rintro _ w40 ⟨rfl, h41⟩; refine ⟨_, rfl, ?_⟩
    have HS42 := HS1.quiet h41
    clear HS1
    refine St.sv (.bool true) rfl (by kernel_rfl) ?_
    refine St.fin (⟨#[.string (bstr k), .string (bstr s), .int .u8 (a.toNat : Int), undef, undef, undef, .bool true, undef, undef, .string (bstr k), .int .i64 (k.length : Int), .bool true, .bool true, undef, undef, undef, .bool true, .bool true, undef, undef, .bool true, .bool true, undef, undef, undef, undef, undef, undef, undef, undef, undef, undef, undef, undef, undef, undef, undef, undef, undef, undef, undef, undef, undef, undef, undef, undef, undef, undef, undef, undef, undef, undef, undef, undef, undef, undef], []⟩) (by kernel_rfl) ?_
    refine St.then_n ?_
    refine wp_ret ?_
    refine St.then_r ?_
    refine bodyPost_ret (v := .bool true) (by kernel_rfl) rfl ?_
    -- end 2: []
    exact ⟨rfl, HS42.only⟩
set_option maxHeartbeats 8000000 in
theorem mixes_law (k s : List UInt8) (hk : k.length ≤ 140737488351232) (hs : s.length ≤ 140737488351232) (w : World) (hKT : KTab w) :
    Calls Tryd.prog 4 #[.string (bstr k), .string (bstr s)] w fun r w' => r = .returned (.bool true) ∧ OnlyNew w w' := by
  refine calls_of_wp Tryd.func4 rfl ?_
  refine St.ent0 (⟨#[.string (bstr k), .string (bstr s), undef, undef, undef, undef, undef, undef, undef, undef, undef, undef, undef, undef, undef, undef, undef, undef, undef, undef, undef, undef, undef, undef, undef, undef, undef, undef, undef, undef, undef, undef, undef, undef, undef, undef, undef, undef, undef, undef, undef, undef, undef, undef, undef, undef, undef, undef, undef, undef, undef, undef, undef, undef, undef, undef, undef, undef, undef, undef, undef, undef, undef, undef, undef, undef, undef, undef, undef], []⟩) (by kernel_rfl) ?_
  have HS1 : St w w [] [] := St.nil _ _
  refine wp_seq ?_
  refine St.rgn ?_
  refine St.sv (.bool false) rfl (by kernel_rfl) ?_
  refine St.fin (⟨#[.string (bstr k), .string (bstr s), undef, undef, .bool false, undef, undef, undef, undef, undef, undef, undef, undef, undef, undef, undef, undef, undef, undef, undef, undef, undef, undef, undef, undef, undef, undef, undef, undef, undef, undef, undef, undef, undef, undef, undef, undef, undef, undef, undef, undef, undef, undef, undef, undef, undef, undef, undef, undef, undef, undef, undef, undef, undef, undef, undef, undef, undef, undef, undef, undef, undef, undef, undef, undef, undef, undef, undef, undef], []⟩) (by kernel_rfl) ?_
  refine St.then_n ?_
  refine wp_seq ?_
  refine wp_seq ?_
  cases hg2 : decide ((k.length : Int) > 64)
  · skip
    have q3 := of_decide_eq_false hg2
    cases hg4 : decide ((s.length : Int) > 300)
    · skip
      have q5 := of_decide_eq_false hg4
      refine St.rgn ?_
      refine St.sv (.string (bstr k)) rfl (by kernel_rfl) ?_
      refine St.sv (.int .i64 (k.length : Int)) rfl (St.e_len (l := k) 9 rfl Tryd.underlying9 (by kernel_rfl)) ?_
      refine St.sv (.bool false) rfl (St.vb (by kernel_rfl) hg2) ?_
      refine St.sv (.bool false) rfl (by kernel_rfl) ?_
      refine St.svq (.string (bstr s)) (by kernel_rfl) (by kernel_rfl) ?_
      refine St.svq (.int .i64 (s.length : Int)) (by kernel_rfl) (St.e_len (l := s) 9 rfl Tryd.underlying9 (by kernel_rfl)) ?_
      refine St.svq (.bool false) (by kernel_rfl) (St.vb (by kernel_rfl) hg4) ?_
      refine St.sv (.bool false) rfl (by kernel_rfl) ?_
      refine St.sv (.bool false) rfl (by kernel_rfl) ?_
      refine St.scallq (by kernel_rfl) (by kernel_rfl) (Seal.shown_any w (hKT.keep HS1.chg (by simp))) ?_
      rintro _ w6 ⟨rfl, h7⟩; refine ⟨_, rfl, ?_⟩
      have HS8 := HS1.quiet h7
      clear HS1
      refine St.svq (.bool false) (by kernel_rfl) (by kernel_rfl) ?_
      refine St.sv (.bool false) rfl (by kernel_rfl) ?_
      refine St.fin (⟨#[.string (bstr k), .string (bstr s), undef, undef, .bool false, undef, undef, undef, undef, undef, .string (bstr k), .int .i64 (k.length : Int), .bool false, .bool false, .string (bstr s), .int .i64 (s.length : Int), .bool false, .bool false, .bool false, .bool true, .bool false, .bool false, undef, undef, undef, undef, undef, undef, undef, undef, undef, undef, undef, undef, undef, undef, undef, undef, undef, undef, undef, undef, undef, undef, undef, undef, undef, undef, undef, undef, undef, undef, undef, undef, undef, undef, undef, undef, undef, undef, undef, undef, undef, undef, undef, undef, undef, undef, undef], []⟩) (by kernel_rfl) ?_
      refine St.then_n ?_
      refine wp_cond_false rfl ?_
      refine wp_skip ?_
      refine St.then_n ?_
      refine wp_seq ?_
      refine St.rgn ?_
      refine St.sg rfl (St.g_bslS (e := 5) rfl ([]) (fun _ => by kernel_rfl) 1 (by first | omega | (simp; omega) | simp) (by decide) HS8) ?_
      rintro _ w10 ⟨b9, rfl, _, HS11⟩
      clear HS8
      refine St.sv (.slice (some ⟨b9, 0, none⟩) 0 0) rfl (by kernel_rfl) ?_
      refine St.fin (⟨#[.string (bstr k), .string (bstr s), undef, undef, .bool false, .slice (some ⟨b9, 0, none⟩) 0 0, undef, undef, undef, undef, .string (bstr k), .int .i64 (k.length : Int), .bool false, .bool false, .string (bstr s), .int .i64 (s.length : Int), .bool false, .bool false, .bool false, .bool true, .bool false, .bool false, undef, .slice (some ⟨b9, 0, none⟩) 0 0, undef, undef, undef, undef, undef, undef, undef, undef, undef, undef, undef, undef, undef, undef, undef, undef, undef, undef, undef, undef, undef, undef, undef, undef, undef, undef, undef, undef, undef, undef, undef, undef, undef, undef, undef, undef, undef, undef, undef, undef, undef, undef, undef, undef, undef], []⟩) (by kernel_rfl) ?_
      refine St.then_n ?_
      refine wp_seq ?_
      refine St.rgn ?_
      refine St.sg rfl (St.g_bslS (e := 5) rfl ([]) (fun _ => by kernel_rfl) 1 (by first | omega | (simp; omega) | simp) (by decide) HS11) ?_
      rintro _ w13 ⟨b12, rfl, _, HS14⟩
      clear HS11
      refine St.sv (.slice (some ⟨b12, 0, none⟩) 0 0) rfl (by kernel_rfl) ?_
      refine St.fin (⟨#[.string (bstr k), .string (bstr s), undef, undef, .bool false, .slice (some ⟨b9, 0, none⟩) 0 0, .slice (some ⟨b12, 0, none⟩) 0 0, undef, undef, undef, .string (bstr k), .int .i64 (k.length : Int), .bool false, .bool false, .string (bstr s), .int .i64 (s.length : Int), .bool false, .bool false, .bool false, .bool true, .bool false, .bool false, undef, .slice (some ⟨b9, 0, none⟩) 0 0, .slice (some ⟨b12, 0, none⟩) 0 0, undef, undef, undef, undef, undef, undef, undef, undef, undef, undef, undef, undef, undef, undef, undef, undef, undef, undef, undef, undef, undef, undef, undef, undef, undef, undef, undef, undef, undef, undef, undef, undef, undef, undef, undef, undef, undef, undef, undef, undef, undef, undef, undef, undef], []⟩) (by kernel_rfl) ?_
      refine St.then_n ?_
      refine wp_seq ?_
      refine wp_seq ?_
      refine St.rgn ?_
      refine St.sv (.int .i64 0) rfl (by kernel_rfl) ?_
      refine St.fin (⟨#[.string (bstr k), .string (bstr s), undef, undef, .bool false, .slice (some ⟨b9, 0, none⟩) 0 0, .slice (some ⟨b12, 0, none⟩) 0 0, .int .i64 0, undef, undef, .string (bstr k), .int .i64 (k.length : Int), .bool false, .bool false, .string (bstr s), .int .i64 (s.length : Int), .bool false, .bool false, .bool false, .bool true, .bool false, .bool false, undef, .slice (some ⟨b9, 0, none⟩) 0 0, .slice (some ⟨b12, 0, none⟩) 0 0, undef, undef, undef, undef, undef, undef, undef, undef, undef, undef, undef, undef, undef, undef, undef, undef, undef, undef, undef, undef, undef, undef, undef, undef, undef, undef, undef, undef, undef, undef, undef, undef, undef, undef, undef, undef, undef, undef, undef, undef, undef, undef, undef, undef], []⟩) (by kernel_rfl) ?_
      refine St.then_n ?_
      refine wp_block ?_
      refine St.loopI (fun n a w' => ∃ (i : Nat) (ao5 : Option Addr) (cp5 : Nat) (g5 : Option Nat) (ao6 : Option Addr) (cp6 : Nat) (g6 : Option Nat) (u8 u25 u26 u27 u28 u29 u30 u31 u32 u33 u34 u35 u36 u37 u38 u39 u40 u41 u42 u43 u44 u45 : Value), n = 64 - i ∧ (i ≤ 64) ∧ (k.length ≤ 64) ∧ a = ⟨#[.string (bstr k), .string (bstr s), undef, undef, .bool false, .slice ao5 i cp5, .slice ao6 i cp6, .int .i64 (i : Int), u8, undef, .string (bstr k), .int .i64 (k.length : Int), .bool false, .bool false, .string (bstr s), .int .i64 (s.length : Int), .bool false, .bool false, .bool false, .bool true, .bool false, .bool false, undef, .slice (some ⟨b9, 0, none⟩) 0 0, .slice (some ⟨b12, 0, none⟩) 0 0, u25, u26, u27, u28, u29, u30, u31, u32, u33, u34, u35, u36, u37, u38, u39, u40, u41, u42, u43, u44, u45, undef, undef, undef, undef, undef, undef, undef, undef, undef, undef, undef, undef, undef, undef, undef, undef, undef, undef, undef, undef, undef, undef, undef], []⟩ ∧ St w w' [] [.sl 1 ao6 i cp6 (cellsOf (mx k 92 i)) g6, .sl 1 ao5 i cp5 (cellsOf (mx k 54 i)) g5]) (64 - 0) ⟨0, (some ⟨b9, 0, none⟩), 0, (some b9), (some ⟨b12, 0, none⟩), 0, (some b12), _, _, _, _, _, _, _, _, _, _, _, _, _, _, _, _, _, _, _, _, _, _, rfl, (by first | omega | (simp; omega) | simp), (by first | omega | (simp; omega) | simp), rfl, HS14⟩ ?_
      rintro _ _ wr1 ⟨i, ao5, cp5, g5, ao6, cp6, g6, u8, u25, u26, u27, u28, u29, u30, u31, u32, u33, u34, u35, u36, u37, u38, u39, u40, u41, u42, u43, u44, u45, rfl, hf1_0, hf1_1, rfl, HS15⟩
      clear HS14
      refine wp_seq ?_
      refine wp_seq ?_
      refine St.rgn ?_
      refine St.sv (.int .i64 (i : Int)) rfl (by kernel_rfl) ?_
      refine St.sv (.bool (decide ((i : Int) < 64))) rfl (by kernel_rfl) ?_
      refine St.fin (⟨#[.string (bstr k), .string (bstr s), undef, undef, .bool false, .slice ao5 i cp5, .slice ao6 i cp6, .int .i64 (i : Int), u8, undef, .string (bstr k), .int .i64 (k.length : Int), .bool false, .bool false, .string (bstr s), .int .i64 (s.length : Int), .bool false, .bool false, .bool false, .bool true, .bool false, .bool false, undef, .slice (some ⟨b9, 0, none⟩) 0 0, .slice (some ⟨b12, 0, none⟩) 0 0, .int .i64 (i : Int), .bool (decide ((i : Int) < 64)), u27, u28, u29, u30, u31, u32, u33, u34, u35, u36, u37, u38, u39, u40, u41, u42, u43, u44, u45, undef, undef, undef, undef, undef, undef, undef, undef, undef, undef, undef, undef, undef, undef, undef, undef, undef, undef, undef, undef, undef, undef, undef], []⟩) (by kernel_rfl) ?_
      refine St.then_n ?_
      refine wp_cond_split (t := decide ((i : Int) < 64)) rfl (fun hc16 => ?_) (fun hc16 => ?_)
      · skip
        have q17 := of_decide_eq_true hc16
        refine wp_skip ?_
        refine St.then_n ?_
        refine wp_seq ?_
        refine wp_block ?_
        refine wp_seq ?_
        refine St.rgn ?_
        refine St.sv (.int .u8 0) rfl (by kernel_rfl) ?_
        refine St.fin (⟨#[.string (bstr k), .string (bstr s), undef, undef, .bool false, .slice ao5 i cp5, .slice ao6 i cp6, .int .i64 (i : Int), .int .u8 0, undef, .string (bstr k), .int .i64 (k.length : Int), .bool false, .bool false, .string (bstr s), .int .i64 (s.length : Int), .bool false, .bool false, .bool false, .bool true, .bool false, .bool false, undef, .slice (some ⟨b9, 0, none⟩) 0 0, .slice (some ⟨b12, 0, none⟩) 0 0, .int .i64 (i : Int), .bool (decide ((i : Int) < 64)), u27, u28, u29, u30, u31, u32, u33, u34, u35, u36, u37, u38, u39, u40, u41, u42, u43, u44, u45, undef, undef, undef, undef, undef, undef, undef, undef, undef, undef, undef, undef, undef, undef, undef, undef, undef, undef, undef, undef, undef, undef, undef], []⟩) (by kernel_rfl) ?_
        refine St.then_n ?_
        refine wp_seq ?_
        refine wp_seq ?_
        refine St.rgn ?_
        refine St.sv (.int .i64 (i : Int)) rfl (by kernel_rfl) ?_
        refine St.sv (.string (bstr k)) rfl (by kernel_rfl) ?_
        refine St.sv (.int .i64 (k.length : Int)) rfl (St.e_len (l := k) 9 rfl Tryd.underlying9 (by kernel_rfl)) ?_
        refine St.sv (.bool (decide ((i : Int) < (k.length : Int)))) rfl (by kernel_rfl) ?_
        refine St.fin (⟨#[.string (bstr k), .string (bstr s), undef, undef, .bool false, .slice ao5 i cp5, .slice ao6 i cp6, .int .i64 (i : Int), .int .u8 0, undef, .string (bstr k), .int .i64 (k.length : Int), .bool false, .bool false, .string (bstr s), .int .i64 (s.length : Int), .bool false, .bool false, .bool false, .bool true, .bool false, .bool false, undef, .slice (some ⟨b9, 0, none⟩) 0 0, .slice (some ⟨b12, 0, none⟩) 0 0, .int .i64 (i : Int), .bool (decide ((i : Int) < 64)), u27, u28, .int .i64 (i : Int), .string (bstr k), .int .i64 (k.length : Int), .bool (decide ((i : Int) < (k.length : Int))), u33, u34, u35, u36, u37, u38, u39, u40, u41, u42, u43, u44, u45, undef, undef, undef, undef, undef, undef, undef, undef, undef, undef, undef, undef, undef, undef, undef, undef, undef, undef, undef, undef, undef, undef, undef], []⟩) (by kernel_rfl) ?_
        refine St.then_n ?_
        refine wp_cond_split (t := decide ((i : Int) < (k.length : Int))) rfl (fun hc18 => ?_) (fun hc18 => ?_)
        · skip
          have q19 := of_decide_eq_true hc18
          refine St.rgn ?_
          refine St.sv (.string (bstr k)) rfl (by kernel_rfl) ?_
          refine St.sv (.int .i64 (i : Int)) rfl (by kernel_rfl) ?_
          refine St.sv (.int .u8 ((k.getD i 0).toNat : Int)) rfl (St.e_ixs (k := .i64) (l := k) (i := i) rfl Tryd.underlying9 (by kernel_rfl) (by kernel_rfl) (by first | omega | (simp; omega) | simp)) ?_
          refine St.sv (.int .u8 ((k.getD i 0).toNat : Int)) rfl (by kernel_rfl) ?_
          refine St.fin (⟨#[.string (bstr k), .string (bstr s), undef, undef, .bool false, .slice ao5 i cp5, .slice ao6 i cp6, .int .i64 (i : Int), .int .u8 ((k.getD i 0).toNat : Int), undef, .string (bstr k), .int .i64 (k.length : Int), .bool false, .bool false, .string (bstr s), .int .i64 (s.length : Int), .bool false, .bool false, .bool false, .bool true, .bool false, .bool false, undef, .slice (some ⟨b9, 0, none⟩) 0 0, .slice (some ⟨b12, 0, none⟩) 0 0, .int .i64 (i : Int), .bool (decide ((i : Int) < 64)), u27, u28, .int .i64 (i : Int), .string (bstr k), .int .i64 (k.length : Int), .bool (decide ((i : Int) < (k.length : Int))), .string (bstr k), .int .i64 (i : Int), .int .u8 ((k.getD i 0).toNat : Int), u36, u37, u38, u39, u40, u41, u42, u43, u44, u45, undef, undef, undef, undef, undef, undef, undef, undef, undef, undef, undef, undef, undef, undef, undef, undef, undef, undef, undef, undef, undef, undef, undef], []⟩) (by kernel_rfl) ?_
          refine St.then_n ?_
          refine wp_seq ?_
          refine St.rgn ?_
          refine St.sv (.slice ao5 i cp5) rfl (by kernel_rfl) ?_
          refine St.sv (.int .u8 ((k.getD i 0).toNat : Int)) rfl (by kernel_rfl) ?_
          refine St.sv (.int .u8 (((k.getD i 0) ^^^ (54 : UInt8)).toNat : Int)) rfl (St.e_xor (a := ((k.getD i 0).toNat : Int)) (b := ((54 : UInt8).toNat : Int)) rfl (by kernel_rfl) (by kernel_rfl) (St.w8_xor (k.getD i 0) (54 : UInt8))) ?_
          refine St.sg rfl (St.g_bsl (e := 5) rfl ([.int .u8 (((k.getD i 0) ^^^ (54 : UInt8)).toNat : Int)]) (fun _ => by kernel_rfl) HS15) ?_
          rintro _ w21 ⟨b20, rfl, _, HS22⟩
          clear HS15
          refine St.sg rfl (St.g_app (m := 1) (c := 1) 27 5 rfl (.int .u8 0) 1 1 Tryd.underlying27 (by kernel_rfl) (by kernel_rfl) (by decide) (by kernel_rfl) HS22 2 rfl (by kernel_rfl) (HS22.row 0 rfl) (by first | omega | (simp; omega) | simp) (by simp [Value.oneCell']) (by first | omega | (simp; omega) | simp) (by first | omega | (simp; omega) | simp) _ (by first | rfl | omega) (cellsOf ((mx k 54 i) ++ [(k.getD i 0) ^^^ (54 : UInt8)])) (by first | with_reducible rfl | simp [cellsOf])) ?_
          rintro _ w26 ⟨ao23, cp24, g25, rfl, HS27⟩
          replace HS27 : St w w26 [] [.row b20 ([.int .u8 (((k.getD i 0) ^^^ (54 : UInt8)).toNat : Int)]), .sl 1 ao6 i cp6 (cellsOf (mx k 92 i)) g6, .sl 1 ao23 (i + 1) cp24 (cellsOf ((mx k 54 i) ++ [(k.getD i 0) ^^^ (54 : UInt8)])) g25] := HS27
          clear HS22
          refine St.sv (.slice ao23 (i + 1) cp24) rfl (by kernel_rfl) ?_
          refine St.fin (⟨#[.string (bstr k), .string (bstr s), undef, undef, .bool false, .slice ao23 (i + 1) cp24, .slice ao6 i cp6, .int .i64 (i : Int), .int .u8 ((k.getD i 0).toNat : Int), undef, .string (bstr k), .int .i64 (k.length : Int), .bool false, .bool false, .string (bstr s), .int .i64 (s.length : Int), .bool false, .bool false, .bool false, .bool true, .bool false, .bool false, undef, .slice (some ⟨b9, 0, none⟩) 0 0, .slice (some ⟨b12, 0, none⟩) 0 0, .int .i64 (i : Int), .bool (decide ((i : Int) < 64)), u27, u28, .int .i64 (i : Int), .string (bstr k), .int .i64 (k.length : Int), .bool (decide ((i : Int) < (k.length : Int))), .string (bstr k), .int .i64 (i : Int), .int .u8 ((k.getD i 0).toNat : Int), .slice ao5 i cp5, .int .u8 ((k.getD i 0).toNat : Int), .int .u8 (((k.getD i 0) ^^^ (54 : UInt8)).toNat : Int), .slice (some ⟨b20, 0, none⟩) 1 1, .slice ao23 (i + 1) cp24, u41, u42, u43, u44, u45, undef, undef, undef, undef, undef, undef, undef, undef, undef, undef, undef, undef, undef, undef, undef, undef, undef, undef, undef, undef, undef, undef, undef], []⟩) (by kernel_rfl) ?_
          refine St.then_n ?_
          refine St.rgn ?_
          refine St.sv (.slice ao6 i cp6) rfl (by kernel_rfl) ?_
          refine St.sv (.int .u8 ((k.getD i 0).toNat : Int)) rfl (by kernel_rfl) ?_
          refine St.sv (.int .u8 (((k.getD i 0) ^^^ (92 : UInt8)).toNat : Int)) rfl (St.e_xor (a := ((k.getD i 0).toNat : Int)) (b := ((92 : UInt8).toNat : Int)) rfl (by kernel_rfl) (by kernel_rfl) (St.w8_xor (k.getD i 0) (92 : UInt8))) ?_
          refine St.sg rfl (St.g_bsl (e := 5) rfl ([.int .u8 (((k.getD i 0) ^^^ (92 : UInt8)).toNat : Int)]) (fun _ => by kernel_rfl) HS27) ?_
          rintro _ w29 ⟨b28, rfl, _, HS30⟩
          clear HS27
          refine St.sg rfl (St.g_app (m := 1) (c := 1) 27 5 rfl (.int .u8 0) 1 1 Tryd.underlying27 (by kernel_rfl) (by kernel_rfl) (by decide) (by kernel_rfl) HS30 2 rfl (by kernel_rfl) (HS30.row 0 rfl) (by first | omega | (simp; omega) | simp) (by simp [Value.oneCell']) (by first | omega | (simp; omega) | simp) (by first | omega | (simp; omega) | simp) _ (by first | rfl | omega) (cellsOf ((mx k 92 i) ++ [(k.getD i 0) ^^^ (92 : UInt8)])) (by first | with_reducible rfl | simp [cellsOf])) ?_
          rintro _ w34 ⟨ao31, cp32, g33, rfl, HS35⟩
          replace HS35 : St w w34 [] [.row b28 ([.int .u8 (((k.getD i 0) ^^^ (92 : UInt8)).toNat : Int)]), .row b20 ([.int .u8 (((k.getD i 0) ^^^ (54 : UInt8)).toNat : Int)]), .sl 1 ao31 (i + 1) cp32 (cellsOf ((mx k 92 i) ++ [(k.getD i 0) ^^^ (92 : UInt8)])) g33, .sl 1 ao23 (i + 1) cp24 (cellsOf ((mx k 54 i) ++ [(k.getD i 0) ^^^ (54 : UInt8)])) g25] := HS35
          clear HS30
          refine St.sv (.slice ao31 (i + 1) cp32) rfl (by kernel_rfl) ?_
          refine St.fin (⟨#[.string (bstr k), .string (bstr s), undef, undef, .bool false, .slice ao23 (i + 1) cp24, .slice ao31 (i + 1) cp32, .int .i64 (i : Int), .int .u8 ((k.getD i 0).toNat : Int), undef, .string (bstr k), .int .i64 (k.length : Int), .bool false, .bool false, .string (bstr s), .int .i64 (s.length : Int), .bool false, .bool false, .bool false, .bool true, .bool false, .bool false, undef, .slice (some ⟨b9, 0, none⟩) 0 0, .slice (some ⟨b12, 0, none⟩) 0 0, .int .i64 (i : Int), .bool (decide ((i : Int) < 64)), u27, u28, .int .i64 (i : Int), .string (bstr k), .int .i64 (k.length : Int), .bool (decide ((i : Int) < (k.length : Int))), .string (bstr k), .int .i64 (i : Int), .int .u8 ((k.getD i 0).toNat : Int), .slice ao5 i cp5, .int .u8 ((k.getD i 0).toNat : Int), .int .u8 (((k.getD i 0) ^^^ (54 : UInt8)).toNat : Int), .slice (some ⟨b20, 0, none⟩) 1 1, .slice ao23 (i + 1) cp24, .slice ao6 i cp6, .int .u8 ((k.getD i 0).toNat : Int), .int .u8 (((k.getD i 0) ^^^ (92 : UInt8)).toNat : Int), .slice (some ⟨b28, 0, none⟩) 1 1, .slice ao31 (i + 1) cp32, undef, undef, undef, undef, undef, undef, undef, undef, undef, undef, undef, undef, undef, undef, undef, undef, undef, undef, undef, undef, undef, undef, undef], []⟩) (by kernel_rfl) ?_
          refine St.inb_n ?_
          refine St.then_n ?_
          refine St.rgn ?_
          refine St.sv (.int .i64 (i : Int)) rfl (by kernel_rfl) ?_
          refine St.sv (.int .i64 ((i + 1 : Nat) : Int)) rfl (St.e_add (a := (i : Int)) (b := 1) rfl (by kernel_rfl) (by kernel_rfl) (by rw [IntKind.wrap_i64]; omega)) ?_
          refine St.sv (.int .i64 ((i + 1 : Nat) : Int)) rfl (by kernel_rfl) ?_
          refine St.fin (⟨#[.string (bstr k), .string (bstr s), undef, undef, .bool false, .slice ao23 (i + 1) cp24, .slice ao31 (i + 1) cp32, .int .i64 ((i + 1 : Nat) : Int), .int .u8 ((k.getD i 0).toNat : Int), undef, .string (bstr k), .int .i64 (k.length : Int), .bool false, .bool false, .string (bstr s), .int .i64 (s.length : Int), .bool false, .bool false, .bool false, .bool true, .bool false, .bool false, undef, .slice (some ⟨b9, 0, none⟩) 0 0, .slice (some ⟨b12, 0, none⟩) 0 0, .int .i64 (i : Int), .bool (decide ((i : Int) < 64)), .int .i64 (i : Int), .int .i64 ((i + 1 : Nat) : Int), .int .i64 (i : Int), .string (bstr k), .int .i64 (k.length : Int), .bool (decide ((i : Int) < (k.length : Int))), .string (bstr k), .int .i64 (i : Int), .int .u8 ((k.getD i 0).toNat : Int), .slice ao5 i cp5, .int .u8 ((k.getD i 0).toNat : Int), .int .u8 (((k.getD i 0) ^^^ (54 : UInt8)).toNat : Int), .slice (some ⟨b20, 0, none⟩) 1 1, .slice ao23 (i + 1) cp24, .slice ao6 i cp6, .int .u8 ((k.getD i 0).toNat : Int), .int .u8 (((k.getD i 0) ^^^ (92 : UInt8)).toNat : Int), .slice (some ⟨b28, 0, none⟩) 1 1, .slice ao31 (i + 1) cp32, undef, undef, undef, undef, undef, undef, undef, undef, undef, undef, undef, undef, undef, undef, undef, undef, undef, undef, undef, undef, undef, undef, undef], []⟩) (by kernel_rfl) ?_
          refine St.then_n ?_
          first | rw [mx_next k 54 i (by omega) (by omega) _ (fill_in k i (by omega)), mx_next k 92 i (by omega) (by omega) _ (fill_in k i (by omega))] at HS35 | rw [mx_zero k 54 i (by omega) (by omega) (by omega), mx_zero k 92 i (by omega) (by omega) (by omega)] at HS35
          have HS36 := St.dropn 2 HS35
          refine ⟨_, ?_, (i + 1), ao23, cp24, g25, ao31, cp32, g33, _, _, _, _, _, _, _, _, _, _, _, _, _, _, _, _, _, _, _, _, _, _, rfl, ?_, ?_, rfl, ?_⟩
          · omega
          · exact (by first | omega | (simp; omega) | simp)
          · exact (by first | omega | (simp; omega) | simp)
          · exact HS36
        · skip
          have q37 := of_decide_eq_false hc18
          refine wp_skip ?_
          refine St.then_n ?_
          refine wp_seq ?_
          refine St.rgn ?_
          refine St.sv (.slice ao5 i cp5) rfl (by kernel_rfl) ?_
          refine St.sv (.int .u8 0) rfl (by kernel_rfl) ?_
          refine St.sv (.int .u8 54) rfl (by kernel_rfl) ?_
          refine St.sg rfl (St.g_bsl (e := 5) rfl ([.int .u8 54]) (fun _ => by kernel_rfl) HS15) ?_
          rintro _ w39 ⟨b38, rfl, _, HS40⟩
          clear HS15
          refine St.sg rfl (St.g_app (m := 1) (c := 1) 27 5 rfl (.int .u8 0) 1 1 Tryd.underlying27 (by kernel_rfl) (by kernel_rfl) (by decide) (by kernel_rfl) HS40 2 rfl (by kernel_rfl) (HS40.row 0 rfl) (by first | omega | (simp; omega) | simp) (by simp [Value.oneCell']) (by first | omega | (simp; omega) | simp) (by first | omega | (simp; omega) | simp) _ (by first | rfl | omega) (cellsOf ((mx k 54 i) ++ [54])) (by first | with_reducible rfl | simp [cellsOf])) ?_
          rintro _ w44 ⟨ao41, cp42, g43, rfl, HS45⟩
          replace HS45 : St w w44 [] [.row b38 ([.int .u8 54]), .sl 1 ao6 i cp6 (cellsOf (mx k 92 i)) g6, .sl 1 ao41 (i + 1) cp42 (cellsOf ((mx k 54 i) ++ [54])) g43] := HS45
          clear HS40
          refine St.sv (.slice ao41 (i + 1) cp42) rfl (by kernel_rfl) ?_
          refine St.fin (⟨#[.string (bstr k), .string (bstr s), undef, undef, .bool false, .slice ao41 (i + 1) cp42, .slice ao6 i cp6, .int .i64 (i : Int), .int .u8 0, undef, .string (bstr k), .int .i64 (k.length : Int), .bool false, .bool false, .string (bstr s), .int .i64 (s.length : Int), .bool false, .bool false, .bool false, .bool true, .bool false, .bool false, undef, .slice (some ⟨b9, 0, none⟩) 0 0, .slice (some ⟨b12, 0, none⟩) 0 0, .int .i64 (i : Int), .bool (decide ((i : Int) < 64)), u27, u28, .int .i64 (i : Int), .string (bstr k), .int .i64 (k.length : Int), .bool (decide ((i : Int) < (k.length : Int))), u33, u34, u35, .slice ao5 i cp5, .int .u8 0, .int .u8 54, .slice (some ⟨b38, 0, none⟩) 1 1, .slice ao41 (i + 1) cp42, u41, u42, u43, u44, u45, undef, undef, undef, undef, undef, undef, undef, undef, undef, undef, undef, undef, undef, undef, undef, undef, undef, undef, undef, undef, undef, undef, undef], []⟩) (by kernel_rfl) ?_
          refine St.then_n ?_
          refine St.rgn ?_
          refine St.sv (.slice ao6 i cp6) rfl (by kernel_rfl) ?_
          refine St.sv (.int .u8 0) rfl (by kernel_rfl) ?_
          refine St.sv (.int .u8 92) rfl (by kernel_rfl) ?_
          refine St.sg rfl (St.g_bsl (e := 5) rfl ([.int .u8 92]) (fun _ => by kernel_rfl) HS45) ?_
          rintro _ w47 ⟨b46, rfl, _, HS48⟩
          clear HS45
          refine St.sg rfl (St.g_app (m := 1) (c := 1) 27 5 rfl (.int .u8 0) 1 1 Tryd.underlying27 (by kernel_rfl) (by kernel_rfl) (by decide) (by kernel_rfl) HS48 2 rfl (by kernel_rfl) (HS48.row 0 rfl) (by first | omega | (simp; omega) | simp) (by simp [Value.oneCell']) (by first | omega | (simp; omega) | simp) (by first | omega | (simp; omega) | simp) _ (by first | rfl | omega) (cellsOf ((mx k 92 i) ++ [92])) (by first | with_reducible rfl | simp [cellsOf])) ?_
          rintro _ w52 ⟨ao49, cp50, g51, rfl, HS53⟩
          replace HS53 : St w w52 [] [.row b46 ([.int .u8 92]), .row b38 ([.int .u8 54]), .sl 1 ao49 (i + 1) cp50 (cellsOf ((mx k 92 i) ++ [92])) g51, .sl 1 ao41 (i + 1) cp42 (cellsOf ((mx k 54 i) ++ [54])) g43] := HS53
          clear HS48
          refine St.sv (.slice ao49 (i + 1) cp50) rfl (by kernel_rfl) ?_
          refine St.fin (⟨#[.string (bstr k), .string (bstr s), undef, undef, .bool false, .slice ao41 (i + 1) cp42, .slice ao49 (i + 1) cp50, .int .i64 (i : Int), .int .u8 0, undef, .string (bstr k), .int .i64 (k.length : Int), .bool false, .bool false, .string (bstr s), .int .i64 (s.length : Int), .bool false, .bool false, .bool false, .bool true, .bool false, .bool false, undef, .slice (some ⟨b9, 0, none⟩) 0 0, .slice (some ⟨b12, 0, none⟩) 0 0, .int .i64 (i : Int), .bool (decide ((i : Int) < 64)), u27, u28, .int .i64 (i : Int), .string (bstr k), .int .i64 (k.length : Int), .bool (decide ((i : Int) < (k.length : Int))), u33, u34, u35, .slice ao5 i cp5, .int .u8 0, .int .u8 54, .slice (some ⟨b38, 0, none⟩) 1 1, .slice ao41 (i + 1) cp42, .slice ao6 i cp6, .int .u8 0, .int .u8 92, .slice (some ⟨b46, 0, none⟩) 1 1, .slice ao49 (i + 1) cp50, undef, undef, undef, undef, undef, undef, undef, undef, undef, undef, undef, undef, undef, undef, undef, undef, undef, undef, undef, undef, undef, undef, undef], []⟩) (by kernel_rfl) ?_
          refine St.inb_n ?_
          refine St.then_n ?_
          refine St.rgn ?_
          refine St.sv (.int .i64 (i : Int)) rfl (by kernel_rfl) ?_
          refine St.sv (.int .i64 ((i + 1 : Nat) : Int)) rfl (St.e_add (a := (i : Int)) (b := 1) rfl (by kernel_rfl) (by kernel_rfl) (by rw [IntKind.wrap_i64]; omega)) ?_
          refine St.sv (.int .i64 ((i + 1 : Nat) : Int)) rfl (by kernel_rfl) ?_
          refine St.fin (⟨#[.string (bstr k), .string (bstr s), undef, undef, .bool false, .slice ao41 (i + 1) cp42, .slice ao49 (i + 1) cp50, .int .i64 ((i + 1 : Nat) : Int), .int .u8 0, undef, .string (bstr k), .int .i64 (k.length : Int), .bool false, .bool false, .string (bstr s), .int .i64 (s.length : Int), .bool false, .bool false, .bool false, .bool true, .bool false, .bool false, undef, .slice (some ⟨b9, 0, none⟩) 0 0, .slice (some ⟨b12, 0, none⟩) 0 0, .int .i64 (i : Int), .bool (decide ((i : Int) < 64)), .int .i64 (i : Int), .int .i64 ((i + 1 : Nat) : Int), .int .i64 (i : Int), .string (bstr k), .int .i64 (k.length : Int), .bool (decide ((i : Int) < (k.length : Int))), u33, u34, u35, .slice ao5 i cp5, .int .u8 0, .int .u8 54, .slice (some ⟨b38, 0, none⟩) 1 1, .slice ao41 (i + 1) cp42, .slice ao6 i cp6, .int .u8 0, .int .u8 92, .slice (some ⟨b46, 0, none⟩) 1 1, .slice ao49 (i + 1) cp50, undef, undef, undef, undef, undef, undef, undef, undef, undef, undef, undef, undef, undef, undef, undef, undef, undef, undef, undef, undef, undef, undef, undef], []⟩) (by kernel_rfl) ?_
          refine St.then_n ?_
          first | rw [mx_next k 54 i (by omega) (by omega) _ (fill_in k i (by omega)), mx_next k 92 i (by omega) (by omega) _ (fill_in k i (by omega))] at HS53 | rw [mx_zero k 54 i (by omega) (by omega) (by omega), mx_zero k 92 i (by omega) (by omega) (by omega)] at HS53
          have HS54 := St.dropn 2 HS53
          refine ⟨_, ?_, (i + 1), ao41, cp42, g43, ao49, cp50, g51, _, _, _, _, _, _, _, _, _, _, _, _, _, _, _, _, _, _, _, _, _, _, rfl, ?_, ?_, rfl, ?_⟩
          · omega
          · exact (by first | omega | (simp; omega) | simp)
          · exact (by first | omega | (simp; omega) | simp)
          · exact HS54
      · skip
        have q55 := of_decide_eq_false hc16
        obtain rfl : i = 64 := by omega
        have HS56 : St w wr1 [] [.sl 1 ao6 64 cp6 (cellsOf (mx k 92 64)) g6, .sl 1 ao5 64 cp5 (cellsOf (mx k 54 64)) g5] := HS15; clear HS15
        refine wp_exit ?_
        refine St.then_e ?_
        refine St.then_e ?_
        refine St.inb_h ?_
        refine St.then_n ?_
        refine wp_seq ?_
        refine St.rgn ?_
        refine St.sv (.slice ao5 64 cp5) rfl (by kernel_rfl) ?_
        refine St.sv (.string (bstr (mx k 54 64))) rfl (St.e_bss (l := mx k 54 64) rfl Tryd.underlying27 Tryd.underlying5 Tryd.underlying9 (by kernel_rfl) (HS56.srow 1 rfl)) ?_
        refine St.sv (.string (bstr s)) rfl (by kernel_rfl) ?_
        refine St.sv (.string (bstr ((mx k 54 64) ++ s))) rfl (St.e_cat (l := mx k 54 64) (m := s) rfl (by kernel_rfl) (by kernel_rfl) (by first | omega | (simp; omega) | simp)) ?_
        refine St.scall rfl (by kernel_rfl) (Dig.sha_any ((mx k 54 64) ++ s) (by first | omega | (simp; omega) | simp) wr1 (hKT.keep HS56.chg (by simp))) ?_
        rintro _ w57 ⟨rfl, h58⟩; refine ⟨_, rfl, ?_⟩
        have HS59 := HS56.quiet h58
        clear HS56
        refine St.sg rfl (St.g_alloc 24 rfl (cellsOf (List.replicate 32 0)) (by kernel_rfl) HS59) ?_
        rintro _ w61 ⟨b60, rfl, _, HS62⟩
        clear HS59
        refine St.sg rfl (St.g_stores (i := 0) rfl (by kernel_rfl) (cellsOf (sha ((mx k 54 64) ++ s))) (by kernel_rfl) (cellsOf_one _) 32 rfl HS62 0 rfl [] (cellsOf (List.replicate 32 0)) [] (by first | with_reducible rfl | simp only [List.append_assoc, List.cons_append, List.nil_append, List.append_nil]) (by first | omega | (simp; omega) | simp) (by first | omega | (simp; omega) | simp) (by first | omega | (simp; omega) | simp) (cellsOf (sha ((mx k 54 64) ++ s))) (by first | with_reducible rfl | simp only [List.append_assoc, List.cons_append, List.nil_append, List.append_nil])) ?_
        rintro _ w63 ⟨rfl, HS64⟩
        replace HS64 : St w w63 [] [.row b60 (cellsOf (sha ((mx k 54 64) ++ s))), .sl 1 ao6 64 cp6 (cellsOf (mx k 92 64)) g6, .sl 1 ao5 64 cp5 (cellsOf (mx k 54 64)) g5] := HS64
        clear HS62
        refine St.fin (⟨#[.string (bstr k), .string (bstr s), undef, undef, .bool false, .slice ao5 64 cp5, .slice ao6 64 cp6, .int .i64 64, u8, .pointer (some ⟨b60, 0, none⟩), .string (bstr k), .int .i64 (k.length : Int), .bool false, .bool false, .string (bstr s), .int .i64 (s.length : Int), .bool false, .bool false, .bool false, .bool true, .bool false, .bool false, undef, .slice (some ⟨b9, 0, none⟩) 0 0, .slice (some ⟨b12, 0, none⟩) 0 0, .int .i64 64, .bool (decide ((64 : Int) < 64)), u27, u28, u29, u30, u31, u32, u33, u34, u35, u36, u37, u38, u39, u40, u41, u42, u43, u44, u45, .slice ao5 64 cp5, .string (bstr (mx k 54 64)), .string (bstr s), .string (bstr ((mx k 54 64) ++ s)), .agg (cellsOf (sha ((mx k 54 64) ++ s))).toArray, undef, undef, undef, undef, undef, undef, undef, undef, undef, undef, undef, undef, undef, undef, undef, undef, undef, undef], []⟩) (by kernel_rfl) ?_
        refine St.then_n ?_
        refine wp_seq ?_
        refine Lin2.region_lin [0, 0, 3, 0, 8, 0, 32, 120, 255, 511, 1023, 2047, 4095, 2047, 10239, 32767, 65535, 131071, 262143] [] [] (fun _ => True) (St.StK w [] [[.row b60 (cellsOf (sha ((mx k 54 64) ++ s))), .sl 1 ao6 64 cp6 (cellsOf (mx k 92 64)) g6, .sl 1 ao5 64 cp5 (cellsOf (mx k 54 64)) g5, (.big w63.heap.size)]]) St.StK.quiet 69 (by kernel_rfl) rfl (by kernel_rfl) HS64.big.drew ?_
        refine Lin2.walk_pure (.string (bstr k)) (by kernel_rfl) (by kernel_rfl) (by kernel_rfl) (fun w1 => (by kernel_rfl)) ?_; intro S' hS'; subst hS'
        refine Lin2.walk_pure (.string (bstr s)) (by kernel_rfl) (by kernel_rfl) (by kernel_rfl) (fun w1 => (by kernel_rfl)) ?_; intro S' hS'; subst hS'
        refine St.walk_callS [] (.agg (cellsOf (tag k s)).toArray) 0 0 (by kernel_rfl) (by kernel_rfl) (by kernel_rfl) (by kernel_rfl) (fun _ => by kernel_rfl) (by intro f w1 k1 hF _ h1 h2 hI; obtain rfl : k1 = 0 := (by omega); have HS : St w w1 [] [.row b60 (cellsOf (sha ((mx k 54 64) ++ s))), .sl 1 ao6 64 cp6 (cellsOf (mx k 92 64)) g6, .sl 1 ao5 64 cp5 (cellsOf (mx k 54 64)) g5, (.big w63.heap.size)] := hI; refine St.g_call (by kernel_rfl) (Seal.tag_any k s (by first | omega | (simp; omega) | simp) (by first | omega | (simp; omega) | simp) w1 (hKT.keep HS.chg (by simp))) ?_; rintro _ w67 ⟨rfl, h68⟩; exact ⟨_, rfl, rfl, h68⟩) ?_; intro S' hS'; subst hS'
        refine Lin2.walk_pure (.slice ao6 64 cp6) (by kernel_rfl) (by kernel_rfl) (by kernel_rfl) (fun w1 => (by kernel_rfl)) ?_; intro S' hS'; subst hS'
        refine Lin2.walk_read (.string (bstr (mx k 92 64))) 0 0 (by kernel_rfl) (by kernel_rfl) (by kernel_rfl) (by kernel_rfl) (by kernel_rfl) (by intro w1 k1 _ h1 h2 hI; obtain rfl : k1 = 0 := (by omega); have HS : St w w1 [] [.row b60 (cellsOf (sha ((mx k 54 64) ++ s))), .sl 1 ao6 64 cp6 (cellsOf (mx k 92 64)) g6, .sl 1 ao5 64 cp5 (cellsOf (mx k 54 64)) g5, (.big w63.heap.size)] := hI; exact (St.e_bss (l := mx k 92 64) rfl Tryd.underlying27 Tryd.underlying5 Tryd.underlying9 (by kernel_rfl) (HS.srow 1 rfl))) ?_; intro S' hS'; subst hS'
        refine Lin2.walk_pure (.slice (some ⟨b60, 0, none⟩) 32 32) (by kernel_rfl) (by kernel_rfl) (by kernel_rfl) (fun w1 => (by kernel_rfl)) ?_; intro S' hS'; subst hS'
        refine Lin2.walk_read (.string (bstr (sha ((mx k 54 64) ++ s)))) 0 0 (by kernel_rfl) (by kernel_rfl) (by kernel_rfl) (by kernel_rfl) (by kernel_rfl) (by intro w1 k1 _ h1 h2 hI; obtain rfl : k1 = 0 := (by omega); have HS : St w w1 [] [.row b60 (cellsOf (sha ((mx k 54 64) ++ s))), .sl 1 ao6 64 cp6 (cellsOf (mx k 92 64)) g6, .sl 1 ao5 64 cp5 (cellsOf (mx k 54 64)) g5, (.big w63.heap.size)] := hI; exact (St.e_bs (l := sha ((mx k 54 64) ++ s)) (n := 32) (cap := 32) rfl Tryd.underlying27 Tryd.underlying5 Tryd.underlying9 (by kernel_rfl) (HS.row 0 rfl) (by first | omega | (simp; omega) | simp))) ?_; intro S' hS'; subst hS'
        refine Lin2.walk_pure (.string (bstr ((mx k 92 64) ++ (sha ((mx k 54 64) ++ s))))) (by kernel_rfl) (by kernel_rfl) (by kernel_rfl) (fun w1 => (St.e_cat (l := mx k 92 64) (m := sha ((mx k 54 64) ++ s)) rfl (by kernel_rfl) (by kernel_rfl) (by first | omega | (simp; omega) | simp))) ?_; intro S' hS'; subst hS'
        refine St.walk_callS [] (.agg (cellsOf (sha ((mx k 92 64) ++ (sha ((mx k 54 64) ++ s))))).toArray) 0 0 (by kernel_rfl) (by kernel_rfl) (by kernel_rfl) (by kernel_rfl) (fun _ => by kernel_rfl) (by intro f w1 k1 hF _ h1 h2 hI; obtain rfl : k1 = 0 := (by omega); have HS : St w w1 [] [.row b60 (cellsOf (sha ((mx k 54 64) ++ s))), .sl 1 ao6 64 cp6 (cellsOf (mx k 92 64)) g6, .sl 1 ao5 64 cp5 (cellsOf (mx k 54 64)) g5, (.big w63.heap.size)] := hI; refine St.g_call (by kernel_rfl) (Dig.sha_any ((mx k 92 64) ++ (sha ((mx k 54 64) ++ s))) (by first | omega | (simp; omega) | simp) w1 (hKT.keep HS.chg (by simp))) ?_; rintro _ w70 ⟨rfl, h71⟩; exact ⟨_, rfl, rfl, h71⟩) ?_; intro S' hS'; subst hS'
        refine Lin2.walk_pure (.bool true) (by kernel_rfl) (by kernel_rfl) (by kernel_rfl) (fun w1 => (St.vb (St.e_aeq (l := tag k s) (m := sha ((mx k 92 64) ++ (sha ((mx k 54 64) ++ s)))) rfl Tryd.underlying24 Tryd.underlying5 (fun _ => rfl) (by kernel_rfl) (by kernel_rfl) (by kernel_rfl) (by first | omega | (simp; omega) | simp) (by first | omega | (simp; omega) | simp)) (show ((tag k s) == (sha ((mx k 92 64) ++ (sha ((mx k 54 64) ++ s))))) = true from (by rw [mixes_eq k s (by omega)]; exact beq_self_eq_true _)))) ?_; intro S' hS'; subst hS'
        refine Lin2.walk_pure (.bool true) (by kernel_rfl) (by kernel_rfl) (by kernel_rfl) (fun w1 => (by kernel_rfl)) ?_; intro S' hS'; subst hS'
        refine Lin2.walk_read (.agg (cellsOf (sha ((mx k 54 64) ++ s))).toArray) 0 0 (by kernel_rfl) (by kernel_rfl) (by kernel_rfl) (by kernel_rfl) (by kernel_rfl) (by intro w1 k1 _ h1 h2 hI; obtain rfl : k1 = 0 := (by omega); have HS : St w w1 [] [.row b60 (cellsOf (sha ((mx k 54 64) ++ s))), .sl 1 ao6 64 cp6 (cellsOf (mx k 92 64)) g6, .sl 1 ao5 64 cp5 (cellsOf (mx k 54 64)) g5, (.big w63.heap.size)] := hI; exact (St.e_loads (i := 0) rfl (by kernel_rfl) _ Tryd.underlying24 rfl 32 rfl (HS.row 0 rfl) [] (cellsOf (sha ((mx k 54 64) ++ s))) [] (by first | with_reducible rfl | simp only [List.append_assoc, List.cons_append, List.nil_append, List.append_nil]) (by first | omega | (simp; omega) | simp) (by first | omega | (simp; omega) | simp))) ?_; intro S' hS'; subst hS'
        refine St.walk_callS [] (.agg (cellsOf (sha (sha ((mx k 54 64) ++ s)))).toArray) 0 0 (by kernel_rfl) (by kernel_rfl) (by kernel_rfl) (by kernel_rfl) (fun _ => by kernel_rfl) (by intro f w1 k1 hF _ h1 h2 hI; obtain rfl : k1 = 0 := (by omega); have HS : St w w1 [] [.row b60 (cellsOf (sha ((mx k 54 64) ++ s))), .sl 1 ao6 64 cp6 (cellsOf (mx k 92 64)) g6, .sl 1 ao5 64 cp5 (cellsOf (mx k 54 64)) g5, (.big w63.heap.size)] := hI; refine St.g_call (by kernel_rfl) (Seal.of_any (sha ((mx k 54 64) ++ s)) (by first | omega | (simp; omega) | simp) w1 (hKT.keep HS.chg (by simp))) ?_; rintro _ w73 ⟨rfl, h74⟩; exact ⟨_, rfl, rfl, h74⟩) ?_; intro S' hS'; subst hS'
        refine Lin2.walk_pure (.slice (some ⟨b60, 0, none⟩) 32 32) (by kernel_rfl) (by kernel_rfl) (by kernel_rfl) (fun w1 => (by kernel_rfl)) ?_; intro S' hS'; subst hS'
        refine Lin2.walk_read (.string (bstr (sha ((mx k 54 64) ++ s)))) 0 0 (by kernel_rfl) (by kernel_rfl) (by kernel_rfl) (by kernel_rfl) (by kernel_rfl) (by intro w1 k1 _ h1 h2 hI; obtain rfl : k1 = 0 := (by omega); have HS : St w w1 [] [.row b60 (cellsOf (sha ((mx k 54 64) ++ s))), .sl 1 ao6 64 cp6 (cellsOf (mx k 92 64)) g6, .sl 1 ao5 64 cp5 (cellsOf (mx k 54 64)) g5, (.big w63.heap.size)] := hI; exact (St.e_bs (l := sha ((mx k 54 64) ++ s)) (n := 32) (cap := 32) rfl Tryd.underlying27 Tryd.underlying5 Tryd.underlying9 (by kernel_rfl) (HS.row 0 rfl) (by first | omega | (simp; omega) | simp))) ?_; intro S' hS'; subst hS'
        refine St.walk_callS [] (.agg (cellsOf (sha (sha ((mx k 54 64) ++ s)))).toArray) 0 0 (by kernel_rfl) (by kernel_rfl) (by kernel_rfl) (by kernel_rfl) (fun _ => by kernel_rfl) (by intro f w1 k1 hF _ h1 h2 hI; obtain rfl : k1 = 0 := (by omega); have HS : St w w1 [] [.row b60 (cellsOf (sha ((mx k 54 64) ++ s))), .sl 1 ao6 64 cp6 (cellsOf (mx k 92 64)) g6, .sl 1 ao5 64 cp5 (cellsOf (mx k 54 64)) g5, (.big w63.heap.size)] := hI; refine St.g_call (by kernel_rfl) (Dig.sha_any (sha ((mx k 54 64) ++ s)) (by first | omega | (simp; omega) | simp) w1 (hKT.keep HS.chg (by simp))) ?_; rintro _ w76 ⟨rfl, h77⟩; exact ⟨_, rfl, rfl, h77⟩) ?_; intro S' hS'; subst hS'
        refine Lin2.walk_pure (.bool true) (by kernel_rfl) (by kernel_rfl) (by kernel_rfl) (fun w1 => (St.vb (St.e_aeq (l := sha (sha ((mx k 54 64) ++ s))) (m := sha (sha ((mx k 54 64) ++ s))) rfl Tryd.underlying24 Tryd.underlying5 (fun _ => rfl) (by kernel_rfl) (by kernel_rfl) (by kernel_rfl) (by first | omega | (simp; omega) | simp) (by first | omega | (simp; omega) | simp)) (beq_self_eq_true _))) ?_; intro S' hS'; subst hS'
        refine Lin2.walk_pure (.bool true) (by kernel_rfl) (by kernel_rfl) (by kernel_rfl) (fun w1 => (by kernel_rfl)) ?_; intro S' hS'; subst hS'
        refine Lin2.walk_pure (.bool true) (by kernel_rfl) (by kernel_rfl) (by kernel_rfl) (fun w1 => (by kernel_rfl)) ?_; intro S' hS'; subst hS'
        refine Lin2.walk_end0 rfl ?_; intro w79 _ hI
        have HS80 : St w w79 [] [.row b60 (cellsOf (sha ((mx k 54 64) ++ s))), .sl 1 ao6 64 cp6 (cellsOf (mx k 92 64)) g6, .sl 1 ao5 64 cp5 (cellsOf (mx k 54 64)) g5] := St.unbig (e := .big w63.heap.size) hI; clear hI HS64
        refine St.finQ (⟨#[.string (bstr k), .string (bstr s), undef, undef, .bool true, .slice ao5 64 cp5, .slice ao6 64 cp6, .int .i64 64, u8, .pointer (some ⟨b60, 0, none⟩), .string (bstr k), .int .i64 (k.length : Int), .bool false, .bool false, .string (bstr s), .int .i64 (s.length : Int), .bool false, .bool false, .bool false, .bool true, .bool false, .bool false, undef, .slice (some ⟨b9, 0, none⟩) 0 0, .slice (some ⟨b12, 0, none⟩) 0 0, .int .i64 64, .bool (decide ((64 : Int) < 64)), u27, u28, u29, u30, u31, u32, u33, u34, u35, u36, u37, u38, u39, u40, u41, u42, u43, u44, u45, .slice ao5 64 cp5, .string (bstr (mx k 54 64)), .string (bstr s), .string (bstr ((mx k 54 64) ++ s)), .agg (cellsOf (sha ((mx k 54 64) ++ s))).toArray, .string (bstr k), .string (bstr s), .agg (cellsOf (tag k s)).toArray, .slice ao6 64 cp6, .string (bstr (mx k 92 64)), .slice (some ⟨b60, 0, none⟩) 32 32, .string (bstr (sha ((mx k 54 64) ++ s))), .string (bstr ((mx k 92 64) ++ (sha ((mx k 54 64) ++ s)))), .agg (cellsOf (sha ((mx k 92 64) ++ (sha ((mx k 54 64) ++ s))))).toArray, .bool true, .bool true, .agg (cellsOf (sha ((mx k 54 64) ++ s))).toArray, .agg (cellsOf (sha (sha ((mx k 54 64) ++ s)))).toArray, .slice (some ⟨b60, 0, none⟩) 32 32, .string (bstr (sha ((mx k 54 64) ++ s))), .agg (cellsOf (sha (sha ((mx k 54 64) ++ s)))).toArray, .bool true, .bool true], []⟩) (by kernel_rfl) ?_
        refine St.then_n ?_
        refine wp_ret ?_
        refine bodyPost_ret (v := .bool true) (by kernel_rfl) rfl ?_
        -- end 0: [.row b60 (cellsOf (sha ((mx k 54 64) ++ s))), .sl 1 ao6 64 cp6 (cellsOf (mx k 92 64)) g6, .sl 1 ao5 64 cp5 (cellsOf (mx k 54 64)) g5]
        exact ⟨rfl, HS80.only⟩
    · skip
      have q81 := of_decide_eq_true hg4
      refine St.rgn ?_
      refine St.sv (.string (bstr k)) rfl (by kernel_rfl) ?_
      refine St.sv (.int .i64 (k.length : Int)) rfl (St.e_len (l := k) 9 rfl Tryd.underlying9 (by kernel_rfl)) ?_
      refine St.sv (.bool false) rfl (St.vb (by kernel_rfl) hg2) ?_
      refine St.sv (.bool false) rfl (by kernel_rfl) ?_
      refine St.svq (.string (bstr s)) (by kernel_rfl) (by kernel_rfl) ?_
      refine St.svq (.int .i64 (s.length : Int)) (by kernel_rfl) (St.e_len (l := s) 9 rfl Tryd.underlying9 (by kernel_rfl)) ?_
      refine St.svq (.bool true) (by kernel_rfl) (St.vb (by kernel_rfl) hg4) ?_
      refine St.sv (.bool true) rfl (by kernel_rfl) ?_
      refine St.sv (.bool true) rfl (by kernel_rfl) ?_
      refine St.skip (by kernel_rfl) ?_
      refine St.skip (by kernel_rfl) ?_
      refine St.sv (.bool true) rfl (by kernel_rfl) ?_
      refine St.fin (⟨#[.string (bstr k), .string (bstr s), undef, undef, .bool false, undef, undef, undef, undef, undef, .string (bstr k), .int .i64 (k.length : Int), .bool false, .bool false, .string (bstr s), .int .i64 (s.length : Int), .bool true, .bool true, .bool true, undef, undef, .bool true, undef, undef, undef, undef, undef, undef, undef, undef, undef, undef, undef, undef, undef, undef, undef, undef, undef, undef, undef, undef, undef, undef, undef, undef, undef, undef, undef, undef, undef, undef, undef, undef, undef, undef, undef, undef, undef, undef, undef, undef, undef, undef, undef, undef, undef, undef, undef], []⟩) (by kernel_rfl) ?_
      refine St.then_n ?_
      refine wp_cond_true rfl ?_
      refine wp_seq ?_
      refine St.rgn ?_
      refine St.scall rfl (by kernel_rfl) (Seal.shown_any w (hKT.keep HS1.chg (by simp))) ?_
      rintro _ w82 ⟨rfl, h83⟩; refine ⟨_, rfl, ?_⟩
      have HS84 := HS1.quiet h83
      clear HS1
      refine St.sv (.bool true) rfl (by kernel_rfl) ?_
      refine St.fin (⟨#[.string (bstr k), .string (bstr s), undef, undef, .bool true, undef, undef, undef, undef, undef, .string (bstr k), .int .i64 (k.length : Int), .bool false, .bool false, .string (bstr s), .int .i64 (s.length : Int), .bool true, .bool true, .bool true, undef, undef, .bool true, .bool true, undef, undef, undef, undef, undef, undef, undef, undef, undef, undef, undef, undef, undef, undef, undef, undef, undef, undef, undef, undef, undef, undef, undef, undef, undef, undef, undef, undef, undef, undef, undef, undef, undef, undef, undef, undef, undef, undef, undef, undef, undef, undef, undef, undef, undef, undef], []⟩) (by kernel_rfl) ?_
      refine St.then_n ?_
      refine wp_ret ?_
      refine St.then_r ?_
      refine bodyPost_ret (v := .bool true) (by kernel_rfl) rfl ?_
      -- end 1: []
      exact ⟨rfl, HS84.only⟩
  · skip
    have q85 := of_decide_eq_true hg2
    refine St.rgn ?_
    refine St.sv (.string (bstr k)) rfl (by kernel_rfl) ?_
    refine St.sv (.int .i64 (k.length : Int)) rfl (St.e_len (l := k) 9 rfl Tryd.underlying9 (by kernel_rfl)) ?_
    refine St.sv (.bool true) rfl (St.vb (by kernel_rfl) hg2) ?_
    refine St.sv (.bool true) rfl (by kernel_rfl) ?_
    refine St.skip (by kernel_rfl) ?_
    refine St.skip (by kernel_rfl) ?_
    refine St.skip (by kernel_rfl) ?_
    refine St.sv (.bool true) rfl (by kernel_rfl) ?_
    refine St.sv (.bool true) rfl (by kernel_rfl) ?_
    refine St.skip (by kernel_rfl) ?_
    refine St.skip (by kernel_rfl) ?_
    refine St.sv (.bool true) rfl (by kernel_rfl) ?_
    refine St.fin (⟨#[.string (bstr k), .string (bstr s), undef, undef, .bool false, undef, undef, undef, undef, undef, .string (bstr k), .int .i64 (k.length : Int), .bool true, .bool true, undef, undef, undef, .bool true, .bool true, undef, undef, .bool true, undef, undef, undef, undef, undef, undef, undef, undef, undef, undef, undef, undef, undef, undef, undef, undef, undef, undef, undef, undef, undef, undef, undef, undef, undef, undef, undef, undef, undef, undef, undef, undef, undef, undef, undef, undef, undef, undef, undef, undef, undef, undef, undef, undef, undef, undef, undef], []⟩) (by kernel_rfl) ?_
    refine St.then_n ?_
    refine wp_cond_true rfl ?_
    refine wp_seq ?_
    refine St.rgn ?_
    refine St.scall rfl (by kernel_rfl) (Seal.shown_any w (hKT.keep HS1.chg (by simp))) ?_
    rintro _ w86 ⟨rfl, h87⟩; refine ⟨_, rfl, ?_⟩
    have HS88 := HS1.quiet h87
    clear HS1
    refine St.sv (.bool true) rfl (by kernel_rfl) ?_
    refine St.fin (⟨#[.string (bstr k), .string (bstr s), undef, undef, .bool true, undef, undef, undef, undef, undef, .string (bstr k), .int .i64 (k.length : Int), .bool true, .bool true, undef, undef, undef, .bool true, .bool true, undef, undef, .bool true, .bool true, undef, undef, undef, undef, undef, undef, undef, undef, undef, undef, undef, undef, undef, undef, undef, undef, undef, undef, undef, undef, undef, undef, undef, undef, undef, undef, undef, undef, undef, undef, undef, undef, undef, undef, undef, undef, undef, undef, undef, undef, undef, undef, undef, undef, undef, undef], []⟩) (by kernel_rfl) ?_
    refine St.then_n ?_
    refine wp_ret ?_
    refine St.then_r ?_
    refine bodyPost_ret (v := .bool true) (by kernel_rfl) rfl ?_
    -- end 2: []
    exact ⟨rfl, HS88.only⟩
end Go.Proofs.YtomalanncdcopaaDoor.Seal
