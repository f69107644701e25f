/-
  A stack of parts of a tree. (A helper text; it claims nothing of the program.)
-/
import Derived.Test.YtldapomcjfkeeaaTrOfD
import Derived.Test.YtldapomcjfkeeaaShrink
namespace Go.Proofs.Ytldapomcjfkeeaa
set_option linter.unusedVariables false
open Go.ChangeShapes Go.WideShapes Go.ChangeAt Go.RowKit

/-- A cell of a slice of its own whose elements have several cells each. -/
theorem Tr.cellsN {α : Type} {w0 w : World} {μ : List Asrt} {e : TypeId} {size g n cap : Nat} {l : List α} {f : α → Value} (h : St w0 w (aOwn e size (.slice (some ⟨g, 0, none⟩) n cap) (l.map f) :: μ)) (hsz : ∀ x, (f x).cells.size = size) (i : Nat) (hi : i < l.length) (d : α) (j : Nat) (hj : j < size) (q : Value)
    (hq : (f (l.getD i d)).cells.toList[j]? = some q) : w.cell? ⟨g, i * size + j, none⟩ = some q := by
  have h1 : Own w 0 e size (.slice (some ⟨g, 0, none⟩) n cap) (l.map f) := h.ok _ (.head _)
  have hs2 : ∀ u ∈ l.map f, u.cells.size = size := by
    intro u hu; obtain ⟨y, hy, rfl⟩ := List.mem_map.1 hu; exact hsz y
  unfold Own at h1
  rcases h1.2 with ⟨h2, _⟩ | ⟨g', cap', cur, hv, hB, hg, hn, hc, hcs, htk⟩
  · cases h2
  · simp only [Value.slice.injEq, Option.some.injEq, Addr.mk.injEq] at hv
    obtain ⟨⟨rfl, _⟩, rfl, rfl⟩ := hv
    have h3 := cellsOf_get hs2 i (by rw [List.length_map]; exact hi) j hj
    rw [List.getElem_map, show l[i] = l.getD i d by simp [List.getD, List.getElem?_eq_getElem hi], hq, ← htk] at h3
    have hlt : i * size + j < (l.map f).length * size := by
      rw [List.length_map]
      have : (i + 1) * size ≤ l.length * size := Nat.mul_le_mul_right _ hi
      rw [Nat.add_mul] at this; omega
    rw [List.getElem?_take, if_pos hlt] at h3
    simp only [World.cell?, hg]
    simpa using h3
theorem St.allSplit {w0 w : World} {As Bs μ : List Asrt} (h : St w0 w (aAll (As ++ Bs) :: μ)) : St w0 w (aAll As :: aAll Bs :: μ) := by
  have hfp : (aAll (As ++ Bs)).fp = (aAll As).fp ++ (aAll Bs).fp := by simp [aAll]
  refine ⟨h.bel, fun X hX => ?_, fun X hX b hb => ?_, ?_⟩
  · rcases List.mem_cons.1 hX with rfl | hX
    · intro A hA; exact h.ok _ (.head _) A (List.mem_append.2 (.inl hA))
    rcases List.mem_cons.1 hX with rfl | hX
    · intro A hA; exact h.ok _ (.head _) A (List.mem_append.2 (.inr hA))
    · exact h.ok X (.tail _ hX)
  · rcases List.mem_cons.1 hX with rfl | hX
    · exact h.lo _ (.head _) b (by rw [hfp]; exact List.mem_append.2 (.inl hb))
    rcases List.mem_cons.1 hX with rfl | hX
    · exact h.lo _ (.head _) b (by rw [hfp]; exact List.mem_append.2 (.inr hb))
    · exact h.lo X (.tail _ hX) b hb
  · have := h.sep
    simp only [List.flatMap_cons, hfp, List.append_assoc] at this ⊢
    exact this
/-- append(s, u), s being full, at a step of a region that draws its order. -/
theorem St.stepFull {P : Program} {w0 w : World} {μ : List Asrt} {t e : TypeId} {size bytes : Nat} (E : ET P t e size bytes) {ops : Array Oper} {o : Oper} {a : Act} {K : Act → World → Prop} {Q : Exit → Act → World → Prop} {EE : Prop} (hgd : o.guard = none)
    (s x : Operand) (ho : o.op = .call { callee := .builtin .append, args := #[s, x], argTypes := #[t, t] }) (h : St w0 w μ) (b : Addr) (xs : List Value) (m : Nat) (hm : m = xs.length) (hs : a.eval s = .slice (some b) m m) (hxs : ∀ u ∈ xs, u.cells.size = size)
    (hread : ∀ j q, (cellsOf xs)[j]? = some q → w.cell? (b.add j) = some q) (u : Value) (ad : Addr) (c : Nat) (hx : a.eval x = .slice (some ad) 1 c) (hsz : u.cells.size = size) (hu : ∀ j q, u.cells.toList[j]? = some q → w.cell? (ad.add j) = some q)
    (hlen : xs.length + 1 ≤ maxLen) (hroom : (xs.length + 1) * bytes ≤ 140737488355328)
    (hK : ∀ g' cap w', St w0 w' (aOwn e size (.slice (some ⟨g', 0, none⟩) (m + 1) cap) (xs ++ [u]) :: μ) → K (a.put o.dst (.slice (some ⟨g', 0, none⟩) (m + 1) cap)) w') : if Region.wanted o (yielded ops a.tmps) = true then Oper.wp P o a w K Q else EE := by
  have hw : Region.wanted o (yielded ops a.tmps) = true := by simp [Region.wanted, hgd]
  rw [if_pos hw]
  exact St.wpAppFull E s x ho h b xs m hm hs hxs hread u ad c hx hsz hu hlen hroom hK
namespace Tr
/-- A part: a kid and its head. -/
abbrev P4 := K3 × Int
def partV (q : P4) : Value := .agg #[.int .i64 q.1.1.prod, .int .i64 q.1.1.tok, q.1.2.1, .int .i64 q.2]
def partA (q : P4) : Asrt := kidA q.1
def plain (q : P4) : Part := (q.1.1, q.2)
def pz : P4 := ((nil, .slice Option.none 0 0, []), 0)
theorem partE : ET Try.prog 209 211 4 48 := ET.mk' Try.underlying209 (z := .agg #[.int .i64 0, .int .i64 0, .slice Option.none 0 0, .int .i64 0]) (by kernel_rfl) rfl (by decide)
theorem partOne {q : P4} (h : KidOk q.1) : ∀ c ∈ (partV q).cells.toList, c.oneCell' = true := by
  obtain ⟨-, -, ao, n, c, h⟩ := h
  intro x hx
  simp [partV, Value.cells, h] at hx
  rcases hx with rfl | rfl | rfl | rfl <;> rfl
theorem cellPart {w0 w : World} {μ : List Asrt} {g n cap : Nat} {P : List P4} (h : St w0 w (aOwn 211 4 (.slice (some ⟨g, 0, Option.none⟩) n cap) (P.map partV) :: μ)) (i : Nat) (hi : i < P.length) :
    w.cell? ⟨g, i * 4, Option.none⟩ = some (.int .i64 (P.getD i pz).1.1.prod) ∧ w.cell? ⟨g, i * 4 + 1, Option.none⟩ = some (.int .i64 (P.getD i pz).1.1.tok) ∧ w.cell? ⟨g, i * 4 + 2, Option.none⟩ = some (P.getD i pz).1.2.1 ∧ w.cell? ⟨g, i * 4 + 3, Option.none⟩ = some (.int .i64 (P.getD i pz).2) :=
  ⟨Tr.cellsN h (fun _ => rfl) i hi pz 0 (by decide) _ rfl, Tr.cellsN h (fun _ => rfl) i hi pz 1 (by decide) _ rfl, Tr.cellsN h (fun _ => rfl) i hi pz 2 (by decide) _ rfl, Tr.cellsN h (fun _ => rfl) i hi pz 3 (by decide) _ rfl⟩
section
variable {G : Gm} {ps : List Part} {c : Nat} {e : Ev} {s : List Ev}
theorem step_leaf (h : e.1 = 2 ∧ e.2 = (c : Int)) : step G (some (ps, c)) e = some (ps ++ [(.mk (-1) (c : Int) [], -1)], c + 1) := by
  rw [step]; simp only; rw [if_pos h]
theorem step_bad (h : ¬ (e.1 = 2 ∧ e.2 = (c : Int))) (h2 : ¬ (e.1 = 4 ∧ 0 ≤ e.2 ∧ e.2 < G.length)) : step G (some (ps, c)) e = none := by
  rw [step]; simp only; rw [if_neg h, if_neg h2]
variable {b : List (Int × Int)} {h0 : Int}
theorem step_few (h : ¬ (e.1 = 2 ∧ e.2 = (c : Int))) (h2 : e.1 = 4 ∧ 0 ≤ e.2 ∧ e.2 < G.length) (hb : G.getD e.2.toNat (0, []) = (h0, b)) (h3 : ps.length < b.length) : step G (some (ps, c)) e = none := by
  rw [step]; simp only [hb]; rw [if_neg h, if_pos h2, if_pos h3]
theorem step_unfit (h : ¬ (e.1 = 2 ∧ e.2 = (c : Int))) (h2 : e.1 = 4 ∧ 0 ≤ e.2 ∧ e.2 < G.length) (hb : G.getD e.2.toNat (0, []) = (h0, b)) (h3 : ¬ ps.length < b.length) (h4 : fitsL (ps.drop (ps.length - b.length)) b = false) : step G (some (ps, c)) e = none := by
  rw [step]; simp only [hb]; rw [if_neg h, if_pos h2, if_neg h3, if_neg (by rw [h4]; simp)]
theorem step_fit (h : ¬ (e.1 = 2 ∧ e.2 = (c : Int))) (h2 : e.1 = 4 ∧ 0 ≤ e.2 ∧ e.2 < G.length) (hb : G.getD e.2.toNat (0, []) = (h0, b)) (h3 : ¬ ps.length < b.length) (h4 : fitsL (ps.drop (ps.length - b.length)) b = true) : step G (some (ps, c)) e = some (ps.take (ps.length - b.length) ++ [(.mk e.2 0 ((ps.drop (ps.length - b.length)).map (·.1)), h0)], c) := by
  rw [step]; simp only [hb]; rw [if_neg h, if_pos h2, if_neg h3, if_pos h4]
theorem fitsL_at {qs : List Part} {d : Part} {j : Nat} (h1 : j < qs.length) (h2 : j < b.length) : fitsL (qs.drop j) (b.drop j) = (fits (qs.getD j d) (b.getD j (0, 0)) && fitsL (qs.drop (j + 1)) (b.drop (j + 1))) := by
  rw [Gr.drop_at qs d j h1, Gr.drop_at b (0, 0) j h2, fitsL]
end
end Tr
end Go.Proofs.Ytldapomcjfkeeaa
