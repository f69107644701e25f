/-
  next of package dfa, whatever the state.
-/
import Derived.Test.YtlgabpcddldelaaDmPl
namespace Go.Proofs.Ytlgabpcddldelaa
set_option linter.unusedVariables false
set_option linter.unusedSimpArgs false
open Go.ChangeShapes Go.WideShapes Go.ChangeAt Go.RowKit

namespace Dm
/-- A right automaton of places. -/
structure Good (P : Pn) : Prop where
  hn : P.cl.length ≤ 200
  hru : P.ru.length = P.cl.length
  hfo : P.fo.length = P.cl.length
  hla : P.la.length = P.cl.length
  he1 : 1 ≤ P.em.length
  he2 : P.em.length ≤ 20
  hrr : ∀ i, i < P.cl.length → 0 ≤ P.ru.getD i 0 ∧ P.ru.getD i 0 < P.em.length
  hfi : ∀ x ∈ P.fi, 0 ≤ x ∧ x < P.cl.length
  hff : ∀ i, i < P.cl.length → ∀ x ∈ P.fo.getD i [], 0 ≤ x ∧ x < P.cl.length
/-- Where it lies. -/
structure In (F : Nat → Prop) (w : World) (vc vr vi vo vl ve : Value) (P : Pn) : Prop where
  h1 : ((Enc.row .u64 4).sl 32).R F w [vc] P.cl
  h2 : ((Enc.int .i64).sl 8).R F w [vr] P.ru
  h3 : ((Enc.int .i64).sl 8).R F w [vi] P.fi
  h4 : (((Enc.int .i64).sl 8).sl 24).R F w [vo] P.fo
  h5 : (Enc.bool.sl 1).R F w [vl] P.la
  h6 : (Enc.bool.sl 1).R F w [ve] P.em
theorem un_contains {fo : List (List Int)} {n : Nat} (hn : n ≤ 256) {fr : List Nat} (hfr : ∃ c : Nat → Bool, fr = (List.range n).filter c) (x : Int) : (un fo (ofL fr) n).contains x = fr.any fun y => (fo.getD y []).contains x := by
  obtain ⟨c, rfl⟩ := hfr
  have hb : ∀ x ∈ (List.range n).filter c, x < 256 := fun x hx => by have := List.mem_range.1 (List.mem_filter.1 hx).1; omega
  rw [Bool.eq_iff_iff, List.contains_iff_mem, List.any_eq_true]
  unfold un
  rw [List.mem_flatMap]
  constructor
  · rintro ⟨y, hy, hx⟩
    have hyn := List.mem_range.1 hy
    rw [mem_ofL hb (by omega)] at hx
    split at hx
    · rename_i h
      exact ⟨y, List.contains_iff_mem.1 h, List.contains_iff_mem.2 hx⟩
    · cases hx
  · rintro ⟨y, hy, hx⟩
    refine ⟨y, (List.mem_filter.1 hy).1, ?_⟩
    have hyn := List.mem_range.1 (List.mem_filter.1 hy).1
    rw [mem_ofL hb (by omega), if_pos (List.contains_iff_mem.2 hy)]
    exact List.contains_iff_mem.1 hx
theorem ok_sel {n : Nat} (hn : n ≤ 256) {s : List Nat} (hs : ∃ c : Nat → Bool, s = (List.range n).filter c) : Ok4 (ofL s) := by
  obtain ⟨c, rfl⟩ := hs
  exact ok_ofL fun x hx => by have := List.mem_range.1 (List.mem_filter.1 hx).1; omega
end Dm

theorem dmNext_any (P : Dm.Pn) (hg : Dm.Good P) (S : List (List Nat)) (hsel : Dm.Sel P.cl.length S) (k : Nat) (hk : k < S.length) (vc vr vi vo vl ve vm vR vT : Value) (w0 w : World) (F : Nat → Prop) (hF : ∀ b, F b → b < w0.heap.size) (hin : Dm.In F w0 vc vr vi vo vl ve P) (gm gS c : Nat) (μ : List Asrt)
    (h : St w0 w (aCel gm 93 #[vc, vr, vi, vo, vl, ve, .slice (some ⟨gS, 0, none⟩) (S.map Dm.ofL).length c, vm, vR, vT] :: aOwn 177 4 (.slice (some ⟨gS, 0, none⟩) (S.map Dm.ofL).length c) ((S.map Dm.ofL).map Dm.setV) :: μ)) :
    Calls Try.prog 93 #[.pointer (some ⟨gm, 0, none⟩), .int .i64 k] w fun e w' => ∃ nx, e = .returned (Dm.setV nx) ∧ Hid (Dm.Ok4 nx ∧ ∀ x, x < 256 → Dm.mem nx x = Dm.all P k (S.getD k []) x) ∧ Below w.heap.size w w' := by
  have hn := hg.hn
  by_cases h0 : k = 0
  · subst h0
    refine (dmNext_zero P.fi vc vr vi vo vl ve _ vm vR vT w0 w F hF hin.h3 (fun x hx => by have := hg.hfi x hx; omega) gm _ h).mono ?_
    rintro e w1 ⟨nx, rfl, hh, hb⟩
    exact ⟨nx, rfl, Lib.hid ⟨hh.out.1, fun x hx => by rw [hh.out.2 x hx]; unfold Dm.all; rw [if_pos rfl]⟩, hb⟩
  · refine (dmNext_pos P.fo (S.map Dm.ofL) k (by omega) (by rw [List.length_map]; exact hk) (fun ws hws => ?_) vc vr vi vo vl ve vm vR vT w0 w F hF hin.h4 (by rw [hg.hfo]; omega) (fun i hi x hx => by have := hg.hff i (by rw [← hg.hfo]; exact hi) x hx; omega) gm gS c _ h).mono ?_
    · obtain ⟨s, hs, rfl⟩ := List.mem_map.1 hws
      exact Dm.ok_sel (by omega) (hsel.1 s hs)
    · rintro e w1 ⟨nx, rfl, hh, hb⟩
      refine ⟨nx, rfl, Lib.hid ⟨hh.out.1, fun x hx => ?_⟩, hb⟩
      have e1 : (S.map Dm.ofL).getD k Dm.zero = Dm.ofL (S.getD k []) := by
        simp [List.getD, List.getElem?_eq_getElem hk]
      have hm : S.getD k [] ∈ S := by
        rw [show S.getD k [] = S[k] by simp [List.getD, List.getElem?_eq_getElem hk]]; exact List.getElem_mem hk
      rw [hh.out.2 x hx, e1, hg.hfo, Dm.un_contains (by omega) (hsel.1 _ hm)]
      unfold Dm.all
      rw [if_neg h0]
end Go.Proofs.Ytlgabpcddldelaa
