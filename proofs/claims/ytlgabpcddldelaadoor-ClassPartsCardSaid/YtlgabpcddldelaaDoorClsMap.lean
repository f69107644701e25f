/-
  What class.Parts needs beside: a map from classes to numbers, counting.
-/
import Derived.Test.YtlgabpcddldelaaDoorClsRef
import Derived.Test.YtlgabpcddldelaaDoorMapMore
import Derived.Test.YtlgabpcddldelaaDoorSepRow
namespace Go.Proofs.YtlgabpcddldelaaDoor
set_option linter.unusedVariables false
set_option linter.unusedSimpArgs false
open Go.ChangeShapes Go.WideShapes Go.ChangeAt Go.RowKit

namespace Cp
theorem akey : WideMaps.ArrKey Tryd.prog 24 22 4 := ⟨Tryd.underlying24, by kernel_rfl, by kernel_rfl, by kernel_rfl⟩
theorem zeroE (w : World) : (zeroValue 3).run Tryd.prog w = .ok (.int .i64 0) w := by kernel_rfl
theorem tsz : ∃ m, Tryd.prog.types.size = m + 1 := ⟨Tryd.prog.types.size - 1, by kernel_rfl⟩
theorem clKey {t : List Nat} (h : Dm.Ok4 t) : ∃ kl, keyOf Tryd.prog 24 (Cs.clV t) = some kl := by
  have e : Cs.clV t = .agg ((t.map fun (n : Nat) => (n : Int)).map (Value.int .u64)).toArray := by unfold Cs.clV Cs.clA; rw [List.map_map]; rfl
  rw [e]
  refine arr_key akey Tryd.underlying22 tsz _ (by rw [List.length_map]; exact h.len) (fun x hx => ?_)
  obtain ⟨n, hn, rfl⟩ := List.mem_map.1 hx
  obtain ⟨j, hj, rfl⟩ := List.getElem_of_mem hn
  have := h.lt j
  rw [show t.getD j 0 = t[j] by simp [List.getD, List.getElem?_eq_getElem hj]] at this
  have h2 : ((t[j] : Nat) : Int) < 18446744073709551616 := Int.ofNat_lt.2 this
  simp [Lit.wf, IntKind.min, IntKind.max, IntKind.signed, IntKind.bits]
  omega
/-- The map counts what went by. -/
def Counts (M : DataW Unit) (L : List (List Nat)) : Prop := ∃ T, Tells 24 Cs.clV M T ∧ ∀ c, numAt T c = ((L.count c : Nat) : Int)
theorem counts_nil : Counts (.map [] : DataW Unit) [] := ⟨[], Tells.nil, fun c => rfl⟩
theorem Counts.at {M : DataW Unit} {L : List (List Nat)} (h : Counts M L) {c : List Nat} {kl : Lit} (hk : keyOf Tryd.prog 24 (Cs.clV c) = some kl) : M.atKey kl (.lit (.int .i64 0)) = .lit (.int .i64 ((L.count c : Nat) : Int)) := by
  obtain ⟨T, hT, hn⟩ := h
  rw [(hT.2 c kl hk).2, hn]
theorem Counts.put {M : DataW Unit} {L : List (List Nat)} (h : Counts M L) {c : List Nat} {kl : Lit} (hk : keyOf Tryd.prog 24 (Cs.clV c) = some kl) : Counts (M.put kl (.lit (.int .i64 ((L.count c + 1 : Nat) : Int)))) (L ++ [c]) := by
  obtain ⟨T, hT, hn⟩ := h
  refine ⟨_, hT.put (Maps.Keyed.of_law akey.law) (fun a b => Cs.clV_inj) hk _, fun d => ?_⟩
  rw [List.count_append]
  by_cases he : c = d
  · subst he
    simp [numAt]
  · have := hn d
    unfold numAt at this ⊢
    simp only [List.find?_cons, he, decide_false]
    rw [this]
    simp [List.count_singleton, he]
theorem stepAlloc {P : Program} {w0 w : World} {μ : List Asrt} {ops : Array Oper} {o : Oper} {a : Act} {K : Act → World → Prop} {Q : Exit → Act → World → Prop} {EE : Prop} {T : TypeId} {cs : Array Value} (hgd : o.guard = none) (ha : o.op = Op.alloc T) (hr : ∀ u : World, (execOp a.eval o).run P u = .ok (.value (.pointer (some ⟨u.heap.size, 0, none⟩))) (u.alloc (.cells cs T)))
    (h : St w0 w μ) (hK : ∀ g w', St w0 w' (aCel g T cs :: μ) → K (a.put o.dst (.pointer (some ⟨g, 0, none⟩))) w') : if Region.wanted o (yielded ops a.tmps) = true then Oper.wp P o a w K Q else EE :=
  St.stepNew hgd hr h hK
theorem share0 {P A : World → Prop} {G : Prop} (h1 : (∀ W, A W → P W) → G) (h2 : ∀ W, A W → P W) : G := h1 h2
theorem shareE {P A : Value → Nat → World → Prop} {G : Prop} (h1 : (∀ v s W, A v s W → P v s W) → G) (h2 : ∀ v s W, A v s W → P v s W) : G := h1 h2
theorem share2 {P A : Nat → Nat → World → Prop} {G : Prop} (h1 : (∀ g s W, A g s W → P g s W) → G) (h2 : ∀ g s W, A g s W → P g s W) : G := h1 h2
end Cp
end Go.Proofs.YtlgabpcddldelaaDoor
