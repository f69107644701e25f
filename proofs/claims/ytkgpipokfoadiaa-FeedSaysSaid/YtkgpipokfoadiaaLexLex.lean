/-
  check, One and Lex of package lexer: what they compute.
-/
import Derived.Test.YtkgpipokfoadiaaLexTok
namespace Go.Proofs.Ytkgpipokfoadiaa
set_option linter.unusedVariables false
open Go.ChangeShapes Go.WideShapes Go.ChangeAt Go.RowKit

theorem St.celHeap {w0 w : World} {μ : List Asrt} {g : Nat} {T : TypeId} {cs : Array Value} (h : St w0 w (aCel g T cs :: μ)) : w.heap[g]? = some (.cells cs T (0, 0)) := h.ok _ (.head _)

namespace Lx
noncomputable def err (of : List Int) (next : List (List Int)) (tags : List Int) (n : Nat) : Int := if Pkd.err of next tags = 0 then (if 2000 < n then 2 else 0) else Pkd.err of next tags
theorem err_bad {of next tags n} (h : Pkd.err of next tags ≠ 0) : err of next tags n = Pkd.err of next tags := by rw [err, if_neg h]
theorem err_large {of next tags n} (h : Pkd.err of next tags = 0) (h1 : 2000 < n) : err of next tags n = 2 := by rw [err, if_pos h, if_pos h1]
theorem err_ok {of next tags n} (h : Pkd.err of next tags = 0) (h1 : ¬ 2000 < n) : err of next tags n = 0 := by rw [err, if_pos h, if_neg h1]
theorem err_zero {of next tags n} (h : err of next tags n = 0) : n ≤ 2000 ∧ next.length ≤ 200 ∧ Pkd.Good of next tags := by
  unfold err at h
  rcases Pkd.err_cases of next tags with h1 | ⟨h1, h2, h3⟩
  · rw [if_neg (by omega)] at h; omega
  · rw [if_pos h1] at h
    by_cases h4 : 2000 < n
    · rw [if_pos h4] at h; omega
    · exact ⟨by omega, h2, h3⟩
end Lx
attribute [irreducible] Lx.err

set_option maxRecDepth 100000 in
theorem lexCheck_any (A : Array Value) (of : List Int) (next : List (List Int)) (tags : List Int) (vn vt : Value) (s : ByteArray) (hs : s.size ≤ 140737488355328) (w : World) (hp : PackedAt w A of next tags vn vt) :
    Calls Try.prog 77 #[.agg A, .string s] w fun e w' => e = .returned (.int .i64 (Lx.err of next tags s.size)) ∧ Below w.heap.size w w' := by
  have hsz : (Try.prog.info? 55).map (·.size) = some A.size := by rw [hp.size]; kernel_rfl
  have HS := Lib.hid hsz; clear hsz
  have hst := (St.init w).alloc A 55
  have HP := Lib.hid hp; clear hp
  have HA := Lib.hid hst.celHeap
  have HST := Lib.hid hst; clear hst
  by_cases h0 : Pkd.err of next tags = 0
  · by_cases h1 : 2000 < s.size
    · have HE := Lib.hid (Lx.err_large (n := s.size) h0 h1)
      have H0 := Lib.hid h0; clear h0
      go_enter Try.func77, Try.ntmps77
      go_wp2_with (first
        | (refine wpList_load_row rfl 55 (.tmp 2) rfl w.heap.size rfl 55 A (0, 0) _ HA.out Try.underlying55 rfl HS.out ?_)
        | (go_at_call 115; refine (smallCheck_any A of next tags vn vt _ (HP.out.below HST.out.bel)).mono ?_; rintro e w1 ⟨rfl, hb1⟩; rw [H0.out]))
      go_ret
      exact ⟨by rw [HE.out]; rfl, (HST.out.call hb1).bel⟩
    · have HE := Lib.hid (Lx.err_ok (n := s.size) h0 h1)
      have H0 := Lib.hid h0; clear h0
      go_enter Try.func77, Try.ntmps77
      go_wp2_with (first
        | (refine wpList_load_row rfl 55 (.tmp 2) rfl w.heap.size rfl 55 A (0, 0) _ HA.out Try.underlying55 rfl HS.out ?_)
        | (go_at_call 115; refine (smallCheck_any A of next tags vn vt _ (HP.out.below HST.out.bel)).mono ?_; rintro e w1 ⟨rfl, hb1⟩; rw [H0.out]))
      go_ret
      exact ⟨by rw [HE.out]; rfl, (HST.out.call hb1).bel⟩
  · have HE := Lib.hid (Lx.err_bad (n := s.size) h0)
    have H0 : ((Pkd.err of next tags) != 0) = true := by rw [bne_iff_ne]; exact h0
    have hc := fun w' h => smallCheck_any A of next tags vn vt w' h
    generalize Pkd.err of next tags = E at *
    replace hc := Lib.hid hc
    clear h0
    go_enter Try.func77, Try.ntmps77
    go_wp2_with (first
      | (refine wpList_load_row rfl 55 (.tmp 2) rfl w.heap.size rfl 55 A (0, 0) _ HA.out Try.underlying55 rfl HS.out ?_)
      | (go_at_call 115; refine (hc.out _ (HP.out.below HST.out.bel)).mono ?_; rintro e w1 ⟨rfl, hb1⟩))
    go_ret
    exact ⟨by rw [HE.out]; rfl, (HST.out.call hb1).bel⟩
end Go.Proofs.Ytkgpipokfoadiaa
