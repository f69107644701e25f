/-
  The walk of the law LexerSays.
-/
import Derived.Test.YtkgpipokfoadiaaLexerSaysG
namespace Go.Proofs.Ytkgpipokfoadiaa
set_option linter.unusedVariables false
open Go.ChangeShapes Go.WideShapes Go.ChangeAt Go.RowKit

theorem lexerSays_walk (A : Array Value) (of : List Int) (next : List (List Int)) (tags : List Int) (vn vt : Value) (s : ByteArray) (hs : s.size ≤ 140737488355328) (f : Int) (w : World) (hp : PackedAt w A of next tags vn vt) :
    Calls Try.prog 6 #[.agg A, .string s, .int .i64 f] w fun e w' => e = .returned (.bool true) ∧ Below w.heap.size w w' := by
  by_cases he : Pkd.err of next tags = 0
  case neg => exact lexerSays_bad A of next tags vn vt s hs f w hp he
  by_cases hlong : 2000 < s.size
  · exact lexerSays_long A of next tags vn vt s hs f w hp he hlong
  have hle := Lx.err_ok (n := s.size) he hlong
  have hX := Lx.toks_in (of := of) (next := next) (tags := tags) s.size s.data.toList 0 (by omega) []
  have hX2 : (Lx.toks of next tags s.size s.data.toList 0 []).2 = -1 ∨ 0 ≤ (Lx.toks of next tags s.size s.data.toList 0 []).2 := by omega
  by_cases h0 : f < 0
  · rcases hX2 with h | h
    · exact lexerSays_neg_lo A of next tags vn vt s hs f w hp hle he h0 h
    · exact lexerSays_pos_lo A of next tags vn vt s hs f w hp hle he h0 h
  by_cases h1 : (s.size : Int) < f
  · rcases hX2 with h | h
    · exact lexerSays_neg_hi A of next tags vn vt s hs f w hp hle he h0 h1 h
    · exact lexerSays_pos_hi A of next tags vn vt s hs f w hp hle he h0 h1 h
  obtain ⟨n, hn⟩ := Int.eq_ofNat_of_zero_le (show 0 ≤ f by omega)
  by_cases hx : (Lx.longest of next tags (s.data.toList.drop n)).2 = 0
  · rcases hX2 with h | h
    · exact lexerSays_neg_no A of next tags vn vt s hs f w hp hle he n hn (by omega) hx h
    · exact lexerSays_pos_no A of next tags vn vt s hs f w hp hle he n hn (by omega) hx h
  · rcases hX2 with h | h
    · exact lexerSays_neg_yes A of next tags vn vt s hs f w hp hle he n hn (by omega) hx h
    · exact lexerSays_pos_yes A of next tags vn vt s hs f w hp hle he n hn (by omega) hx h
end Go.Proofs.Ytkgpipokfoadiaa
