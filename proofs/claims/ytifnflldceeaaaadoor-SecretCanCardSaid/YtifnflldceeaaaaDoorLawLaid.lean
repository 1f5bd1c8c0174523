/- The tables as the rows list them: a world that holds them, and their cells. -/
import Derived.Test.YtifnflldceeaaaaDoorLaw
set_option linter.unusedSimpArgs false
set_option linter.unusedVariables false
namespace Go.Proofs.YtifnflldceeaaaaDoor
open Go.RowKit

theorem Law.laid_tail {P : Program} {W : World} {x : String × DataW Unit} {rest : List (String × DataW Unit)} (h : laidMet P (x :: rest) W) : laidMet P rest W := by
  obtain ⟨ps, ⟨g, t, cs, fuel, p, q, hg, ht, hvar, hd, hr, rfl⟩, hn, hb⟩ := h
  exact ⟨q, hr, (List.nodup_append.1 hn).2.1, fun b off hm => hb b off (List.mem_append_right _ hm)⟩
def Law.ints0 : List Int := [0, 1, 28, 2, 29, 14, 24, 3, 30, 22, 20, 15, 25, 17, 4, 8, 31, 27, 13, 23, 21, 19, 16, 7, 26, 12, 18, 6, 11, 5, 10, 9]
theorem Law.g0 : Tryd.prog.globalNamed "math/bits.deBruijn32tab" = some 0 := by kernel_rfl
theorem Law.gt0 : (Tryd.prog.globals[0]?).map (·.type) = some 27 := by kernel_rfl
theorem Law.ce0 : Tryd.prog.cellsOf 5 = 1 := by kernel_rfl
theorem Law.ct0 : Tryd.prog.cellsOf 27 = 32 := by kernel_rfl
def Law.ints1 : List Int := [0, 1, 56, 2, 57, 49, 28, 3, 61, 58, 42, 50, 38, 29, 17, 4, 62, 47, 59, 36, 45, 43, 51, 22, 53, 39, 33, 30, 24, 18, 12, 5, 63, 55, 48, 27, 60, 41, 37, 16, 46, 35, 44, 21, 52, 32, 23, 11, 54, 26, 40, 15, 34, 20, 31, 10, 25, 14, 19, 9, 13, 8, 7, 6]
theorem Law.g1 : Tryd.prog.globalNamed "math/bits.deBruijn64tab" = some 1 := by kernel_rfl
theorem Law.gt1 : (Tryd.prog.globals[1]?).map (·.type) = some 57 := by kernel_rfl
theorem Law.ce1 : Tryd.prog.cellsOf 5 = 1 := by kernel_rfl
theorem Law.ct1 : Tryd.prog.cellsOf 57 = 64 := by kernel_rfl
def Law.ints2 : List Int := [1116352408, 1899447441, 3049323471, 3921009573, 961987163, 1508970993, 2453635748, 2870763221, 3624381080, 310598401, 607225278, 1426881987, 1925078388, 2162078206, 2614888103, 3248222580, 3835390401, 4022224774, 264347078, 604807628, 770255983, 1249150122, 1555081692, 1996064986, 2554220882, 2821834349, 2952996808, 3210313671, 3336571891, 3584528711, 113926993, 338241895, 666307205, 773529912, 1294757372, 1396182291, 1695183700, 1986661051, 2177026350, 2456956037, 2730485921, 2820302411, 3259730800, 3345764771, 3516065817, 3600352804, 4094571909, 275423344, 430227734, 506948616, 659060556, 883997877, 958139571, 1322822218, 1537002063, 1747873779, 1955562222, 2024104815, 2227730452, 2361852424, 2428436474, 2756734187, 3204031479, 3329325298]
theorem Law.g2 : Tryd.prog.globalNamed "remitter/digest.k" = some 2 := by kernel_rfl
theorem Law.gt2 : (Tryd.prog.globals[2]?).map (·.type) = some 69 := by kernel_rfl
theorem Law.ce2 : Tryd.prog.cellsOf 50 = 1 := by kernel_rfl
theorem Law.ct2 : Tryd.prog.cellsOf 69 = 64 := by kernel_rfl
theorem Law.cell0_0 {W : World} (h : laidMetH Tryd.prog [("math/bits.deBruijn32tab", Rows.laid_math_bits_deBruijn32tab), ("math/bits.deBruijn64tab", Rows.laid_math_bits_deBruijn64tab)] W) : ∀ j, j < 32 → W.cell? ⟨0, j, none⟩ = some (.int .u8 (Law.ints0.getD j 0)) := by
  have h0 : laidMet Tryd.prog [("math/bits.deBruijn32tab", Rows.laid_math_bits_deBruijn32tab), ("math/bits.deBruijn64tab", Rows.laid_math_bits_deBruijn64tab)] W := h
  have hT : Lib.TabIs Tryd.prog W "math/bits.deBruijn32tab" .u8 Law.ints0 := Lib.tabIs_of_head Law.g0 Law.gt0 Tryd.underlying27 Tryd.underlying5 Law.ce0 Law.ct0 h0
  exact fun j hj => hT.cell Law.g0 j (by have : Law.ints0.length = 32 := rfl; omega)
theorem Law.cell0_1 {W : World} (h : laidMetH Tryd.prog [("math/bits.deBruijn32tab", Rows.laid_math_bits_deBruijn32tab), ("math/bits.deBruijn64tab", Rows.laid_math_bits_deBruijn64tab)] W) : ∀ j, j < 64 → W.cell? ⟨1, j, none⟩ = some (.int .u8 (Law.ints1.getD j 0)) := by
  have h0 : laidMet Tryd.prog [("math/bits.deBruijn32tab", Rows.laid_math_bits_deBruijn32tab), ("math/bits.deBruijn64tab", Rows.laid_math_bits_deBruijn64tab)] W := h
  replace h0 := Law.laid_tail h0
  have hT : Lib.TabIs Tryd.prog W "math/bits.deBruijn64tab" .u8 Law.ints1 := Lib.tabIs_of_head Law.g1 Law.gt1 Tryd.underlying57 Tryd.underlying5 Law.ce1 Law.ct1 h0
  exact fun j hj => hT.cell Law.g1 j (by have : Law.ints1.length = 64 := rfl; omega)
theorem Law.cell1_0 {W : World} (h : laidMetH Tryd.prog [("math/bits.deBruijn32tab", Rows.laid_math_bits_deBruijn32tab), ("math/bits.deBruijn64tab", Rows.laid_math_bits_deBruijn64tab), ("remitter/digest.k", Rows.laid_remitter_digest_k)] W) : ∀ j, j < 32 → W.cell? ⟨0, j, none⟩ = some (.int .u8 (Law.ints0.getD j 0)) := by
  have h0 : laidMet Tryd.prog [("math/bits.deBruijn32tab", Rows.laid_math_bits_deBruijn32tab), ("math/bits.deBruijn64tab", Rows.laid_math_bits_deBruijn64tab), ("remitter/digest.k", Rows.laid_remitter_digest_k)] W := h
  have hT : Lib.TabIs Tryd.prog W "math/bits.deBruijn32tab" .u8 Law.ints0 := Lib.tabIs_of_head Law.g0 Law.gt0 Tryd.underlying27 Tryd.underlying5 Law.ce0 Law.ct0 h0
  exact fun j hj => hT.cell Law.g0 j (by have : Law.ints0.length = 32 := rfl; omega)
theorem Law.cell1_1 {W : World} (h : laidMetH Tryd.prog [("math/bits.deBruijn32tab", Rows.laid_math_bits_deBruijn32tab), ("math/bits.deBruijn64tab", Rows.laid_math_bits_deBruijn64tab), ("remitter/digest.k", Rows.laid_remitter_digest_k)] W) : ∀ j, j < 64 → W.cell? ⟨1, j, none⟩ = some (.int .u8 (Law.ints1.getD j 0)) := by
  have h0 : laidMet Tryd.prog [("math/bits.deBruijn32tab", Rows.laid_math_bits_deBruijn32tab), ("math/bits.deBruijn64tab", Rows.laid_math_bits_deBruijn64tab), ("remitter/digest.k", Rows.laid_remitter_digest_k)] W := h
  replace h0 := Law.laid_tail h0
  have hT : Lib.TabIs Tryd.prog W "math/bits.deBruijn64tab" .u8 Law.ints1 := Lib.tabIs_of_head Law.g1 Law.gt1 Tryd.underlying57 Tryd.underlying5 Law.ce1 Law.ct1 h0
  exact fun j hj => hT.cell Law.g1 j (by have : Law.ints1.length = 64 := rfl; omega)
theorem Law.cell1_2 {W : World} (h : laidMetH Tryd.prog [("math/bits.deBruijn32tab", Rows.laid_math_bits_deBruijn32tab), ("math/bits.deBruijn64tab", Rows.laid_math_bits_deBruijn64tab), ("remitter/digest.k", Rows.laid_remitter_digest_k)] W) : ∀ j, j < 64 → W.cell? ⟨2, j, none⟩ = some (.int .u32 (Law.ints2.getD j 0)) := by
  have h0 : laidMet Tryd.prog [("math/bits.deBruijn32tab", Rows.laid_math_bits_deBruijn32tab), ("math/bits.deBruijn64tab", Rows.laid_math_bits_deBruijn64tab), ("remitter/digest.k", Rows.laid_remitter_digest_k)] W := h
  replace h0 := Law.laid_tail h0
  replace h0 := Law.laid_tail h0
  have hT : Lib.TabIs Tryd.prog W "remitter/digest.k" .u32 Law.ints2 := Lib.tabIs_of_head Law.g2 Law.gt2 Tryd.underlying69 Tryd.underlying50 Law.ce2 Law.ct2 h0
  exact fun j hj => hT.cell Law.g2 j (by have : Law.ints2.length = 64 := rfl; omega)
noncomputable def Law.laidWorld (os : Os) : World :=
  { World.holding Tryd.prog os ⟨#[], #[], []⟩ with heap := ((((World.holding Tryd.prog os ⟨#[], #[], []⟩).heap.modify 0 fun
      | .cells _ t frozen => .cells #[.int .u8 0, .int .u8 1, .int .u8 28, .int .u8 2, .int .u8 29, .int .u8 14, .int .u8 24, .int .u8 3, .int .u8 30, .int .u8 22, .int .u8 20, .int .u8 15, .int .u8 25, .int .u8 17, .int .u8 4, .int .u8 8, .int .u8 31, .int .u8 27, .int .u8 13, .int .u8 23, .int .u8 21, .int .u8 19, .int .u8 16, .int .u8 7, .int .u8 26, .int .u8 12, .int .u8 18, .int .u8 6, .int .u8 11, .int .u8 5, .int .u8 10, .int .u8 9] t frozen
      | o => o).modify 1 fun
      | .cells _ t frozen => .cells #[.int .u8 0, .int .u8 1, .int .u8 56, .int .u8 2, .int .u8 57, .int .u8 49, .int .u8 28, .int .u8 3, .int .u8 61, .int .u8 58, .int .u8 42, .int .u8 50, .int .u8 38, .int .u8 29, .int .u8 17, .int .u8 4, .int .u8 62, .int .u8 47, .int .u8 59, .int .u8 36, .int .u8 45, .int .u8 43, .int .u8 51, .int .u8 22, .int .u8 53, .int .u8 39, .int .u8 33, .int .u8 30, .int .u8 24, .int .u8 18, .int .u8 12, .int .u8 5, .int .u8 63, .int .u8 55, .int .u8 48, .int .u8 27, .int .u8 60, .int .u8 41, .int .u8 37, .int .u8 16, .int .u8 46, .int .u8 35, .int .u8 44, .int .u8 21, .int .u8 52, .int .u8 32, .int .u8 23, .int .u8 11, .int .u8 54, .int .u8 26, .int .u8 40, .int .u8 15, .int .u8 34, .int .u8 20, .int .u8 31, .int .u8 10, .int .u8 25, .int .u8 14, .int .u8 19, .int .u8 9, .int .u8 13, .int .u8 8, .int .u8 7, .int .u8 6] t frozen
      | o => o).modify 2 fun
      | .cells _ t frozen => .cells #[.int .u32 1116352408, .int .u32 1899447441, .int .u32 3049323471, .int .u32 3921009573, .int .u32 961987163, .int .u32 1508970993, .int .u32 2453635748, .int .u32 2870763221, .int .u32 3624381080, .int .u32 310598401, .int .u32 607225278, .int .u32 1426881987, .int .u32 1925078388, .int .u32 2162078206, .int .u32 2614888103, .int .u32 3248222580, .int .u32 3835390401, .int .u32 4022224774, .int .u32 264347078, .int .u32 604807628, .int .u32 770255983, .int .u32 1249150122, .int .u32 1555081692, .int .u32 1996064986, .int .u32 2554220882, .int .u32 2821834349, .int .u32 2952996808, .int .u32 3210313671, .int .u32 3336571891, .int .u32 3584528711, .int .u32 113926993, .int .u32 338241895, .int .u32 666307205, .int .u32 773529912, .int .u32 1294757372, .int .u32 1396182291, .int .u32 1695183700, .int .u32 1986661051, .int .u32 2177026350, .int .u32 2456956037, .int .u32 2730485921, .int .u32 2820302411, .int .u32 3259730800, .int .u32 3345764771, .int .u32 3516065817, .int .u32 3600352804, .int .u32 4094571909, .int .u32 275423344, .int .u32 430227734, .int .u32 506948616, .int .u32 659060556, .int .u32 883997877, .int .u32 958139571, .int .u32 1322822218, .int .u32 1537002063, .int .u32 1747873779, .int .u32 1955562222, .int .u32 2024104815, .int .u32 2227730452, .int .u32 2361852424, .int .u32 2428436474, .int .u32 2756734187, .int .u32 3204031479, .int .u32 3329325298] t frozen
      | o => o) }
end Go.Proofs.YtifnflldceeaaaaDoor
