/-
  The next event of one who reads them.
-/
import Derived.Test.YtldapomcjfkeeaaTrSame
namespace Go.Proofs.Ytldapomcjfkeeaa
set_option linter.unusedVariables false
set_option linter.unusedSimpArgs false
open Go.ChangeShapes Go.WideShapes Go.ChangeAt Go.RowKit

namespace Tr
def rd (R : Nat) (tg ng : Int) (vp vl : Value) (at_ tk : Nat) : Asrt := aCel R 205 #[.int .i64 tg, .int .i64 ng, vp, vl, .int .i64 at_, .int .i64 tk]
theorem rdCells {w0 w : World} {μ : List Asrt} {R : Nat} {tg ng : Int} {vp vl : Value} {at_ tk : Nat} (h : St w0 w μ) (i : Nat) (hA : μ[i]? = some (rd R tg ng vp vl at_ tk)) :
    w.cell? ⟨R, 2, Option.none⟩ = some vp ∧ w.cell? ⟨R, 3, Option.none⟩ = some vl ∧ w.cell? ⟨R, 4, Option.none⟩ = some (.int .i64 at_) ∧ w.cell? ⟨R, 5, Option.none⟩ = some (.int .i64 tk) ∧ w.frozen? ⟨R, 4, Option.none⟩ = false ∧ w.frozen? ⟨R, 5, Option.none⟩ = false := by
  have h1 := h.nth i hA
  unfold rd at h1
  exact ⟨h1.celAt rfl, h1.celAt rfl, h1.celAt rfl, h1.celAt rfl, h1.celFree 4, h1.celFree 5⟩
end Tr

set_option maxRecDepth 100000 in
set_option maxHeartbeats 1600000 in
theorem trNext_yes (w0 : World) (R : Nat) (tg ng : Int) (vp : Value) (al : Option Addr) (cl : Nat) (E : List Tr.Ev) (at_ tk : Nat) (kind : Int) (e : Tr.Ev) (s : List Tr.Ev) (μ : List Asrt) (w : World) (F : Nat → Prop) (hl : (Enc.two.sl 16).R F w0 [.slice al E.length cl] E) (hE : E.length ≤ 2000) (hd : E.drop at_ = e :: s) (he : e.1 = kind)
    (hst : St w0 w (Tr.rd R tg ng vp (.slice al E.length cl) at_ tk :: μ)) :
    Calls Try.prog 150 #[.pointer (some ⟨R, 0, none⟩), .int .i64 kind] w fun e' w' => e' = .returned (.tuple #[.int .i64 e.2, .bool true]) ∧ St w0 w' (Tr.rd R tg ng vp (.slice al E.length cl) (at_ + 1) tk :: μ) := by
  obtain ⟨_, bl, ol, _, hv, -, l3, l4⟩ := slTwo hl
  simp only [Value.slice.injEq, true_and] at hv
  obtain ⟨rfl, rfl⟩ := hv
  have hlt : at_ < E.length := by
    rcases Nat.lt_or_ge at_ E.length with h | h
    · exact h
    · rw [List.drop_eq_nil_of_le h] at hd; cases hd
  obtain ⟨rfl, -, -⟩ := l3 (by omega)
  obtain ⟨c1, c2, -, -⟩ := l4 at_ hlt
  rw [Gr.drop_at E (0, 0) at_ hlt] at hd
  obtain ⟨h1, h2⟩ := List.cons.inj hd
  rw [h1] at c1 c2
  rw [he] at c1
  obtain ⟨e1, e2⟩ := e
  simp only at c2 ⊢
  generalize E.length = N at *
  obtain ⟨q2, q3, q4, q5, q6, -⟩ := Tr.rdCells hst 0 rfl
  have C2 := Lib.hid c2
  have c1 := bkeep hst.bel c1
  have c2 := bkeep hst.bel c2
  have HST := Lib.hid hst
  clear l3 l4 hl hd h1 h2 he hst
  have hlt2 : (at_ : Int) < N := by omega
  have hne : ((at_ : Int) == (N : Int)) = false := by rw [beq_eq_false_iff_ne]; omega
  have hkk : (kind != kind) = false := by rw [bne_eq_false_iff_eq]
  have HSN := Lib.hid (fun n => show St w0 _ (Tr.rd R tg ng vp (.slice (some ⟨bl, ol, none⟩) N cl) (at_ + 1) tk :: μ) from (HST.out.drewN n).setCel 4 (.int .i64 ((at_ + 1 : Nat) : Int)))
  go_enter Try.func150, Try.ntmps150
  go_wp2
  go_quiet (fail)
  have HS2 := Lib.hid (HSN.out nq)
  have q4' : (World.drewN w nq).cell? ⟨R, 4, none⟩ = some (.int .i64 at_) := q4
  have q6' : (World.drewN w nq).frozen? ⟨R, 4, none⟩ = false := q6
  rw [show ((at_ + 1 : Nat) : Int) = (at_ : Int) + 1 by omega] at HS2
  generalize World.drewN w nq = w9 at *
  clear q2 q3 q4 q5 q6 c1 c2 HSN HST hne hkk
  go_wp2_with (fail)
  obtain ⟨q2, q3, q4, q5, -, -⟩ := Tr.rdCells HS2.out 0 rfl
  have c2 := bkeep HS2.out.bel C2.out
  have q4 : (w9.setCell ⟨R, 4, none⟩ (.int .i64 ((at_ : Int) + 1))).cell? ⟨R, 4, none⟩ = some (.int .i64 ((at_ : Int) + 1)) := q4
  have HSN := Lib.hid (fun n => HS2.out.drewN n)
  have hw1 : IntKind.i64.wrap ((at_ : Int) + 1 - 1) = (at_ : Int) := by rw [show (at_ : Int) + 1 - 1 = at_ by omega]; exact IntWalk.i64_in _ (by omega)
  clear q4' q6' q2 q5
  go_quiet (fail)
  have HS3 := Lib.hid (HSN.out nq)
  clear hw1
  go_wp2
  go_ret2
  exact ⟨rfl, HS3.out⟩

set_option maxRecDepth 100000 in
set_option maxHeartbeats 1600000 in
theorem trNext_no (w0 : World) (R : Nat) (tg ng : Int) (vp : Value) (al : Option Addr) (cl : Nat) (E : List Tr.Ev) (at_ tk : Nat) (kind : Int) (μ : List Asrt) (w : World) (F : Nat → Prop) (hl : (Enc.two.sl 16).R F w0 [.slice al E.length cl] E) (hE : E.length ≤ 2000) (hat : at_ ≤ E.length) (hd : ∀ e s, E.drop at_ = e :: s → e.1 ≠ kind)
    (hst : St w0 w (Tr.rd R tg ng vp (.slice al E.length cl) at_ tk :: μ)) :
    Calls Try.prog 150 #[.pointer (some ⟨R, 0, none⟩), .int .i64 kind] w fun e' w' => e' = .returned (.tuple #[.int .i64 0, .bool false]) ∧ St w0 w' (Tr.rd R tg ng vp (.slice al E.length cl) at_ tk :: μ) := by
  obtain ⟨_, bl, ol, _, hv, -, l3, l4⟩ := slTwo hl
  simp only [Value.slice.injEq, true_and] at hv
  obtain ⟨rfl, rfl⟩ := hv
  obtain ⟨q2, q3, q4, q5, q6, -⟩ := Tr.rdCells hst 0 rfl
  have HSN := Lib.hid (fun n => hst.drewN n)
  by_cases hlt : at_ < E.length
  · obtain ⟨rfl, -, -⟩ := l3 (by omega)
    obtain ⟨c1, c2, -, -⟩ := l4 at_ hlt
    have hne2 := hd _ _ (Gr.drop_at E (0, 0) at_ hlt)
    generalize E.getD at_ (0, 0) = e at *
    obtain ⟨e1, e2⟩ := e
    simp only at c1 c2 hne2
    generalize E.length = N at *
    have c1 := bkeep hst.bel c1
    have hlt2 : (at_ : Int) < N := by omega
    have hne : ((at_ : Int) == (N : Int)) = false := by rw [beq_eq_false_iff_ne]; omega
    have hkk : (e1 != kind) = true := by simpa using hne2
    clear l3 l4 hl hd hst c2 hne2
    go_enter Try.func150, Try.ntmps150
    go_wp2
    go_quiet (fail)
    go_wp2
    go_ret2
    exact ⟨rfl, HSN.out _⟩
  · have hat2 : at_ = E.length := by omega
    subst hat2
    generalize E.length = N at *
    clear l3 l4 hl hd hst hlt hat
    have hne : ((N : Int) == (N : Int)) = true := by rw [beq_iff_eq]
    go_enter Try.func150, Try.ntmps150
    go_wp2
    go_quiet (fail)
    go_wp2
    go_ret2
    exact ⟨rfl, HSN.out _⟩
end Go.Proofs.Ytldapomcjfkeeaa
