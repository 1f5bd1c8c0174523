/- What a tag is, in plain lists. -/
import Derived.Test.YtomalanncdcopaaDoorDigE
set_option linter.unusedSimpArgs false
set_option linter.unusedVariables false
namespace Go.Proofs.YtomalanncdcopaaDoor.Seal
open Go Go.RowKit Go.Proofs.YtomalanncdcopaaDoor.Mem Go.Proofs.YtomalanncdcopaaDoor.Dig

/-- a key as 64 bytes. -/
def fill (k : List UInt8) : List UInt8 := k ++ List.replicate (64 - k.length) 0
def keyed (k : List UInt8) : List UInt8 := if 64 < k.length then fill (sha k) else fill k
def mix (l : List UInt8) (b : UInt8) : List UInt8 := l.map (· ^^^ b)
def sealed (K : List UInt8) (b : UInt8) (s : List UInt8) : List UInt8 := sha (mix K b ++ s)
def tag (k s : List UInt8) : List UInt8 := sealed (keyed k) 92 (sealed (keyed k) 54 s)
theorem fill_length (k : List UInt8) (h : k.length ≤ 64) : (fill k).length = 64 := by simp [fill]; omega
theorem keyed_length (k : List UInt8) : (keyed k).length = 64 := by
  unfold keyed
  split
  · exact fill_length _ (by rw [sha_length]; omega)
  · exact fill_length _ (by omega)
theorem mix_length (l : List UInt8) (b : UInt8) : (mix l b).length = l.length := by simp [mix]
theorem tag_length (k s : List UInt8) : (tag k s).length = 32 := by unfold tag sealed; rw [sha_length]
/-- a long key is as its sum. -/
theorem tag_long (k s : List UInt8) (h : 64 < k.length) : tag (sha k) s = tag k s := by
  have e : keyed (sha k) = keyed k := by
    unfold keyed
    rw [if_pos h, if_neg (by rw [sha_length]; omega)]
  unfold tag
  rw [e]
/-- bytes 0 behind a short one change nothing. -/
theorem tag_zeros (k s : List UInt8) (n : Nat) (h : k.length + n ≤ 64) : tag (k ++ List.replicate n 0) s = tag k s := by
  have e : keyed (k ++ List.replicate n 0) = keyed k := by
    unfold keyed
    rw [if_neg (by simp; omega), if_neg (by omega)]
    unfold fill
    simp only [List.append_assoc, List.length_append, List.length_replicate, List.replicate_append_replicate]
    congr 2
    omega
  unfold tag
  rw [e]
end Go.Proofs.YtomalanncdcopaaDoor.Seal
