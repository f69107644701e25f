/-
  The walk of the law GatePacks.
-/
import Derived.Test.YtkgpipokfoadiaaGatePk
import Derived.Test.YtkgpipokfoadiaaGateUn
namespace Go.Proofs.Ytkgpipokfoadiaa
set_option linter.unusedVariables false
open Go.ChangeShapes Go.WideShapes Go.ChangeAt Go.RowKit

namespace Evt
theorem ug_small (n : Nat) : ∀ (s : ByteArray) (out : List (Int × Int)), (∀ x ∈ out, (1 ≤ x.1 ∧ x.1 ≤ 4) ∧ 0 ≤ x.2 ∧ x.2 ≤ 1099511627776) → out.length + n ≤ 1025 → (∀ x ∈ (ug n s out).1, (1 ≤ x.1 ∧ x.1 ≤ 4) ∧ 0 ≤ x.2 ∧ x.2 ≤ 1099511627776) ∧ (ug n s out).1.length ≤ 1025 := by
  induction n with
  | zero => intro s out h hl; rw [ug]; exact ⟨h, by simpa using hl⟩
  | succ n ih =>
    intro s out h hl
    by_cases hz : s.size = 0
    · rw [ug_end _ _ _ hz]; exact ⟨h, by simp; omega⟩
    by_cases hb : Pack.bat s 0 < 1 ∨ 4 < Pack.bat s 0
    · rw [ug_bad _ _ _ hz hb]; simp
    obtain ⟨a, b, c, hr⟩ : ∃ a b c, Pack.readNum (s.extract 1 s.size) = (a, b, c) := ⟨_, _, _, rfl⟩
    have hbd := Pack.readNum_bounds _ a b c hr
    by_cases hc : c = 0
    · subst hc
      by_cases hf : 1099511627776 < a
      · rw [ug_far _ _ _ hz hb _ _ hr hf]; simp
      · rw [ug_next _ _ _ hz hb _ _ hr hf]
        refine ih _ _ (fun x hx => ?_) (by simp; omega)
        rcases List.mem_append.1 hx with hx | hx
        · exact h x hx
        · rw [List.mem_singleton.1 hx]; simp only []; omega
    · rw [ug_err _ _ _ hz hb _ _ _ hr hc]; simp
theorem unpack_small (s : ByteArray) : (∀ x ∈ (unpack s).1, (1 ≤ x.1 ∧ x.1 ≤ 4) ∧ 0 ≤ x.2 ∧ x.2 ≤ 1099511627776) ∧ (unpack s).1.length ≤ 1025 := by
  by_cases h : 1024 < s.size
  · rw [unpack_large s h]; simp
  · rw [unpack_go s h]; exact ug_small _ _ _ (by simp) (by simp)
end Evt

theorem evts_enc {w : World} {B : Nat} {e : TypeId} {v : Value} {l : List (Int × Int)} (h : Own w B e 2 v (l.map pairV)) (h1 : (∀ x ∈ l, (1 ≤ x.1 ∧ x.1 ≤ 4) ∧ 0 ≤ x.2 ∧ x.2 ≤ 1099511627776) ∧ l.length ≤ 1025) : (Enc.two.sl 16).R (fun _ => True) w [v] l :=
  h.two (fun _ _ => trivial) (by have := h1.2; omega) (fun p hp => by have := h1.1 p hp; omega)

set_option maxRecDepth 100000 in
set_option maxHeartbeats 8000000 in
theorem gatePacks_walk (l : List (Int × Int)) (v : Value) (s : ByteArray) (w : World) (h : (Enc.two.sl 16).R (fun b => b < w.heap.size) w [v] l) :
    Calls Try.prog 4 #[v, .string s] w fun e w' => e = .returned (.bool true) ∧ Below w.heap.size w w' := by
  have H := Lib.hid h; clear h
  have HS := Lib.hid (Evt.unpack_small s)
  go_enter Try.func4, Try.ntmps4
  go_wp2_with (first
    | (go_at_call 15; refine (gatePack_any l v _ _ (fun _ h => h) H.out).mono ?_; rintro e w1 ⟨rfl, hb1⟩; have hst := (St.init w).call hb1; clear hb1)
    | (go_at_call 16; refine (eventText_any l v _ _ (fun b hb => Nat.lt_of_lt_of_le hb hst.bel.size) (Enc.mono _ H.out (fun _ h => h) (fun b hb => hst.bel.block b hb))).mono ?_; rintro e w2 ⟨rfl, hb1⟩; replace hst := hst.call hb1; clear hb1)
    | (go_at_call 17; refine (gateUn_any s _).mono ?_; rintro e w3 ⟨v3, rfl, ho, hb1⟩; replace hst := hst.pushOwn hb1 ho; clear hb1 ho)
    | (go_at_call 18; refine (readEvents_any s _).mono ?_; rintro e w4 ⟨v4, rfl, ho, hb1⟩; replace hst := hst.pushOwn hb1 ho; clear hb1 ho)
    | (go_at_call 19; refine (eqEvts _ (evts_enc hst.get2.own HS.out) (evts_enc hst.own HS.out)).mono ?_; rintro e w5 ⟨rfl, hb1⟩; replace hst := hst.call hb1; clear hb1))
  go_ret
  exact ⟨by simp, hst.bel⟩
end Go.Proofs.Ytkgpipokfoadiaa
