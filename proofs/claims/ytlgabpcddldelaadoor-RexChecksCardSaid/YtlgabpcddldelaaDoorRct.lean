/-
  How bytes and classes are written. (Plain functions; nothing of the program is claimed.)
-/
import Derived.Test.YtlgabpcddldelaaDoorRc
import Derived.Test.YtlgabpcddldelaaDoorStrIx
import Derived.Lib.IndexAny
namespace Go.Proofs.YtlgabpcddldelaaDoor
set_option linter.unusedVariables false
open Go.ChangeShapes Go.WideShapes Go.ChangeAt Go.RowKit

namespace Rct
def hexs : ByteArray := ⟨#[48, 49, 50, 51, 52, 53, 54, 55, 56, 57, 97, 98, 99, 100, 101, 102]⟩
def signs : ByteArray := ⟨#[40, 41, 91, 93, 124, 42, 43, 63, 46, 94, 45, 92]⟩
def one (b : Nat) : ByteArray := ⟨#[b.toUInt8]⟩
def sg (k : Nat) : Nat := ([40, 41, 91, 93, 124, 42, 43, 63, 46, 94, 45, 92] : List Nat).getD k 0
def isSign (b : Nat) : Bool := (List.range 12).any fun k => sg k == b
/-- A byte as text. -/
def ct (b : Nat) : ByteArray :=
  if b = 10 then ⟨#[92, 110]⟩ else if b = 9 then ⟨#[92, 116]⟩ else if b = 32 then ⟨#[92, 115]⟩
  else if b < 33 ∨ 126 < b then ⟨#[92, 120]⟩ ++ hexs.extract (b / 16) (b / 16 + 1) ++ hexs.extract (b % 16) (b % 16 + 1)
  else if isSign b = true then ⟨#[92]⟩ ++ one b else one b
theorem sg_lt (k : Nat) : sg k < 127 := by
  match k with
  | 0 | 1 | 2 | 3 | 4 | 5 | 6 | 7 | 8 | 9 | 10 | 11 => decide
  | k + 12 => simp [sg]
theorem isSign_of {b : Nat} (hb : b < 256) : decide (0 ≤ Lib.indexByte signs.data.toList ((b : Nat) : Int).toNat.toUInt8) = isSign b := by
  rw [Int.toNat_natCast, ← Lib.contains_iff_indexByte, List.contains_eq_any_beq]
  rw [show signs.data.toList = (List.range 12).map fun k => (sg k).toUInt8 from rfl, List.any_map]
  unfold isSign
  congr 1
  funext x
  have hx := sg_lt x
  simp only [Function.comp]
  generalize sg x = y at *
  rw [Bool.eq_iff_iff]
  simp only [beq_iff_eq]
  constructor
  · intro h
    have := congrArg UInt8.toNat h
    simp at this
    omega
  · intro h
    rw [h]
theorem enc_one {b : Nat} (hb : b < 128) : Utf8.encode (b : Int) = one b := by
  unfold Utf8.encode
  have hv : Utf8.valid (b : Int) = true := by unfold Utf8.valid; simp; omega
  simp only [hv, if_true, Int.toNat_natCast]
  rw [if_pos hb]; rfl
theorem one_size (b : Nat) : (one b).size = 1 := rfl
theorem ct_size (b : Nat) (hb : b < 256) : (ct b).size ≤ 4 := by
  unfold ct
  split
  · decide
  · split
    · decide
    · split
      · decide
      · split
        · rw [ByteArray.size_append, ByteArray.size_append, ByteArray.size_extract, ByteArray.size_extract]
          show 2 + _ + _ ≤ 4
          omega
        · split
          · rw [ByteArray.size_append, one_size]; decide
          · rw [one_size]; decide
end Rct
end Go.Proofs.YtlgabpcddldelaaDoor
