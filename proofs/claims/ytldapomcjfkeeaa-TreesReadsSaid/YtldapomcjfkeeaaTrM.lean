/-
  Trees in memory, however tall; trees that grow. (A helper text; it claims nothing of the program.)
-/
import Derived.Test.YtldapomcjfkeeaaTrRd
import Derived.Test.YtldapomcjfkeeaaTrE
import Derived.Test.YtldapomcjfkeeaaTrU
namespace Go.Proofs.Ytldapomcjfkeeaa
set_option linter.unusedVariables false
open Go.ChangeShapes Go.WideShapes Go.ChangeAt Go.RowKit

namespace Tr
theorem enc_le {n : Nat} {F : Nat → Prop} {w : World} {cs : List Value} {t : Tr} (h : (enc n).R F w cs t) : ∀ {m : Nat}, n ≤ m → (enc m).R F w cs t := by
  intro m hm
  obtain ⟨k, rfl⟩ := Nat.exists_eq_add_of_le hm
  induction k with
  | zero => exact h
  | succ k ih => exact enc_up (ih (by omega))
/-- A tree, however tall. -/
def any : Enc Tr where
  size := 3
  R := fun F w cs t => ∃ n, (Tr.enc n).R F w cs t
  len := fun ⟨n, h⟩ => by rw [(Tr.enc n).len h, Tr.enc_size]
  mono := fun ⟨n, h⟩ hF hb => ⟨n, Enc.mono _ h hF hb⟩
theorem sl_any {n : Nat} {F : Nat → Prop} {w : World} {vs : List Value} {ks : List Tr} (h : ((enc n).sl 40).R F w vs ks) : (any.sl 40).R F w vs ks := by
  obtain ⟨ao, b, off, cap, h0, h1, h2, h3, h4, h5, h6⟩ := h
  refine ⟨ao, b, off, cap, h0, h1, h2, h3, h4, h5, fun i hi => ?_⟩
  obtain ⟨cs, g1, g2, g3⟩ := h6 i hi
  rw [enc_size] at g1 g2
  exact ⟨cs, g1, g2, n, g3⟩
theorem any_sl {F : Nat → Prop} {w : World} {vs : List Value} {ks : List Tr} (h : (any.sl 40).R F w vs ks) : ∃ n, ((enc n).sl 40).R F w vs ks := by
  obtain ⟨ao, b, off, cap, h0, h1, h2, h3, h4, h5, h6⟩ := h
  have key : ∀ m, ∃ N, ∀ i (hi : i < ks.length), i < m → ∃ cs : List Value, cs.length = 3 ∧ (∀ j, j < 3 → w.cell? ⟨b, off + i * 3 + j, Option.none⟩ = cs[j]?) ∧ (enc N).R F w cs ks[i] := by
    intro m
    induction m with
    | zero => exact ⟨0, fun i _ h => by omega⟩
    | succ m ih =>
      obtain ⟨N, hN⟩ := ih
      by_cases hm : m < ks.length
      · obtain ⟨cs, g1, g2, N2, g3⟩ := h6 m hm
        refine ⟨N + N2, fun i hi hl => ?_⟩
        by_cases he : i = m
        · subst he
          exact ⟨cs, g1, g2, enc_le g3 (by omega)⟩
        · obtain ⟨cs', q1, q2, q3⟩ := hN i hi (by omega)
          exact ⟨cs', q1, q2, enc_le q3 (by omega)⟩
      · exact ⟨N, fun i hi hl => hN i hi (by omega)⟩
  obtain ⟨N, hN⟩ := key ks.length
  refine ⟨N, ao, b, off, cap, h0, h1, h2, h3, h4, h5, fun i hi => ?_⟩
  obtain ⟨cs, g1, g2, g3⟩ := hN i hi hi
  exact ⟨cs, by rw [enc_size]; exact g1, by rw [enc_size]; exact g2, g3⟩
abbrev In64 (n : Int) : Prop := -9223372036854775808 ≤ n ∧ n ≤ 9223372036854775807
theorem wf_of {n : Int} (h : In64 n) : (Lit.int .i64 n).wf = true := WalkArith.wf_i64 h
theorem any_mk {F : Nat → Prop} {w : World} {p k : Int} {v : Value} {ks : List Tr} (hp : In64 p) (hk : In64 k) (h : (any.sl 40).R F w [v] ks) : any.R F w [.int .i64 p, .int .i64 k, v] (.mk p k ks) := by
  obtain ⟨n, hn⟩ := any_sl h
  exact ⟨n + 1, [.int .i64 p], [.int .i64 k, v], rfl, ⟨rfl, wf_of hp⟩, [.int .i64 k], [v], rfl, ⟨rfl, wf_of hk⟩, hn⟩
theorem any_open {F : Nat → Prop} {w : World} {cs : List Value} {t : Tr} (h : any.R F w cs t) : ∃ vk, cs = [.int .i64 t.prod, .int .i64 t.tok, vk] ∧ In64 t.prod ∧ In64 t.tok ∧ (any.sl 40).R F w [vk] t.kids := by
  obtain ⟨n, hn⟩ := h
  obtain ⟨m, rfl, vk, e, h1, h2, h3⟩ := opened hn
  exact ⟨vk, e, h1, h2, sl_any h3⟩
theorem sl_nil {F : Nat → Prop} {w : World} : (any.sl 40).R F w [.slice Option.none 0 0] [] :=
  ⟨Option.none, 0, 0, 0, rfl, Nat.le_refl _, by decide, by simp, fun _ => rfl, fun h => by simp at h, fun i hi => by simp at hi⟩

/-- A kid: the tree, the value of its kids, the blocks that these look into. -/
abbrev K3 := Tr × Value × List Nat
def kidV (q : K3) : Value := .agg #[.int .i64 q.1.prod, .int .i64 q.1.tok, q.2.1]
def kidA (q : K3) : Asrt := aEnc (any.sl 40) q.2.2 [q.2.1] q.1.kids
def KidOk (q : K3) : Prop := In64 q.1.prod ∧ In64 q.1.tok ∧ ∃ ao n c, q.2.1 = .slice ao n c
theorem kidOne {q : K3} (h : KidOk q) : ∀ c ∈ (kidV q).cells.toList, c.oneCell' = true := by
  obtain ⟨-, -, ao, n, c, h⟩ := h
  intro x hx
  simp [kidV, Value.cells, h] at hx
  rcases hx with rfl | rfl | rfl <;> rfl
theorem sealKids {w0 w : World} {μ : List Asrt} {v : Value} {L : List K3} (h : St w0 w (aOwn 71 3 v (L.map kidV) :: aAll (L.map kidA) :: μ)) (hok : ∀ q ∈ L, KidOk q) (hl : L.length ≤ 100000) :
    ∃ fp, St w0 w (aEnc (any.sl 40) fp [v] (L.map (·.1)) :: μ) := by
  refine h.sealed (En := any) (g := fun q : K3 => q.1) rfl (fun q hq ha => ?_) (by omega)
  obtain ⟨h1, h2, ao, n, c, h3⟩ := hok q hq
  obtain ⟨⟨p, k, ks⟩, vk, fp⟩ := q
  simp only at h3
  subst h3
  exact any_mk h1 h2 ha
end Tr
end Go.Proofs.Ytldapomcjfkeeaa
