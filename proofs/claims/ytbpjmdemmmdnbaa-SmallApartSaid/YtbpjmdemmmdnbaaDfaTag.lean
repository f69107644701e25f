/-
  TagOf of the reference: what it computes.
-/
import Derived.Test.YtbpjmdemmmdnbaaDfaDat
namespace Go.Proofs.Ytbpjmdemmmdnbaa
open Go.ChangeShapes Go.WideShapes Go.ChangeAt Go.RowKit

namespace Aut
def tagOf (tags : List Int) (q : Int) : Int := if q < 0 then -1 else tags.getD q.toNat 0
end Aut

theorem DfaAt.below {w w' : World} {v : Value} {rows : List (List Int)} {tags : List Int} (h : DfaAt w v rows tags) (hb : Below w.heap.size w w') : DfaAt w' v rows tags := by
  obtain ⟨v0, v1, h0, h1, h2⟩ := h
  exact ⟨v0, v1, h0, h1.call hb (fun _ _ h => h), h2.call hb (fun _ _ h => h)⟩

set_option maxRecDepth 100000 in
theorem rtagOf_any (v : Value) (rows : List (List Int)) (tags : List Int) (q : Int) (w : World) (hd : DfaAt w v rows tags) (hq : q < tags.length) :
    Calls Try.prog 39 #[v, .int .i64 q] w fun e w' => e = .returned (.int .i64 (Aut.tagOf tags q)) ∧ Below w.heap.size w w' := by
  obtain ⟨v0, v1, rfl, hr, ht⟩ := hd
  obtain ⟨ao, b, off, cap, rfl, c1, c2, c3, c4, c5⟩ := slInts ht
  have C4 := Lib.hid c4; clear c4 c5
  unfold maxLen at c2
  by_cases hneg : q < 0
  · have Hf : Hid (Aut.tagOf tags q = -1) := Lib.hid (by rw [Aut.tagOf, if_pos hneg])
    clear c3
    go_enter Try.func39, Try.ntmps39
    go_wp2
    go_ret
    exact ⟨by rw [Hf.out]; rfl, (Below.refl _ _).alloc (Nat.le_refl _) _⟩
  · obtain ⟨q, rfl⟩ := Int.eq_ofNat_of_zero_le (show 0 ≤ q by omega)
    obtain ⟨rfl, hb⟩ := c3 (by omega)
    clear c3
    have Hf : Hid (Aut.tagOf tags q = tags.getD q 0) := Lib.hid (by rw [Aut.tagOf, if_neg hneg, Int.toNat_natCast])
    have hqt : q < tags.length := by omega
    have hcell := C4.out q hqt
    generalize tags.getD q 0 = t at *
    go_enter Try.func39, Try.ntmps39
    go_wp2
    go_ret
    exact ⟨by rw [Hf.out]; rfl, (Below.refl _ _).alloc (Nat.le_refl _) _⟩
end Go.Proofs.Ytbpjmdemmmdnbaa
