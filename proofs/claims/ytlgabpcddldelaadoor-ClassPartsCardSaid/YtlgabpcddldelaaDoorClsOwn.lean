/-
  An own slice of classes, read.
-/
import Derived.Test.YtlgabpcddldelaaDoorClsSet
import Derived.Test.YtlgabpcddldelaaDoorRowN
namespace Go.Proofs.YtlgabpcddldelaaDoor
set_option linter.unusedVariables false
set_option linter.unusedSimpArgs false
open Go.ChangeShapes Go.WideShapes Go.ChangeAt Go.RowKit

namespace Cp
theorem sub_of {l : List (List Nat)} (hl : ∀ p ∈ l, Dm.Ok4 p) : ∃ m : List {p : List Nat // Dm.Ok4 p}, l = m.map (·.1) := ⟨l.pmap Subtype.mk hl, by simp [List.map_pmap]⟩
theorem own_at {w : World} {B : Nat} {e : TypeId} {v : Value} {l : List (List Nat)} (hl : ∀ p ∈ l, Dm.Ok4 p) (hn : (l.length : Int) ≤ 140737488355328) (hp : 0 < l.length) (h : Own w B e 4 v (l.map Cs.clV)) : ∃ g cap, v = .slice (some ⟨g, 0, none⟩) l.length cap ∧ Cs.At w (some ⟨g, 0, none⟩) g 0 l := by
  obtain ⟨m, rfl⟩ := sub_of hl
  have h0 := h
  rw [List.map_map] at h
  rw [List.length_map] at hp hn
  obtain ⟨ao, b, o, cap, hv, _, ha, hc⟩ := h.rowN (f := Cs.clV ∘ fun p : {p : List Nat // Dm.Ok4 p} => p.1) (size := 4) (fun p => Cs.clA_size p.2) ⟨Dm.zero, Dm.ok_zero⟩ hn
  subst hv
  obtain ⟨g, hg⟩ := h.addr (by rw [List.length_map]; exact hp)
  have ha2 := ha hp
  rw [hg] at ha2
  simp only [Option.some.injEq, Addr.mk.injEq, and_true] at ha2
  obtain ⟨rfl, rfl⟩ := ha2
  subst hg
  refine ⟨g, cap, by rw [List.length_map], ⟨fun _ => rfl, fun i hi => ?_, fun i hi j hj => ?_⟩⟩
  · rw [show (m.map (·.1)).getD i [] = (m.map (·.1))[i] by simp only [List.getD_eq_getElem?_getD, List.getElem?_eq_getElem hi, Option.getD_some]]
    exact hl _ (List.getElem_mem hi)
  · rw [List.length_map] at hi
    have h1 := hc i hi j hj
    have e1 : m.getD i ⟨Dm.zero, Dm.ok_zero⟩ = m[i] := by simp [List.getD, List.getElem?_eq_getElem hi]
    have e2 : (m.map (·.1)).getD i [] = m[i].1 := by simp only [List.getD_eq_getElem?_getD, List.getElem?_map, List.getElem?_eq_getElem hi, Option.map_some, Option.getD_some]
    rw [e1] at h1
    rw [e2, h1]
    exact Cs.clA_get (by rw [m[i].2.len]; exact hj)
end Cp
end Go.Proofs.YtlgabpcddldelaaDoor
