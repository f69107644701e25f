/-
  The functions that are handed to each of package trees.
-/
import Derived.Test.YtldapomcjfkeeaaTrLook
import Derived.Test.YtldapomcjfkeeaaTrE
namespace Go.Proofs.Ytldapomcjfkeeaa
set_option linter.unusedVariables false
set_option linter.unusedSimpArgs false
open Go.ChangeShapes Go.WideShapes Go.ChangeAt Go.RowKit

namespace Tr
/-- What has been put so far: a box with a slice in it. -/
def Acc {β : Type} (w0 : World) (gO : Nat) (T e : TypeId) (size : Nat) (f : β → Value) (A : Asrt) (out : List β) (μ : List Asrt) (w : World) : Prop :=
  ∃ v, St w0 w (aCel gO T #[v] :: aOwn e size v (out.map f) :: A :: μ)
theorem Acc.drew {β : Type} {w0 : World} {gO : Nat} {T e : TypeId} {size : Nat} {f : β → Value} {A : Asrt} {out : List β} {μ : List Asrt} {w : World} (h : Acc w0 gO T e size f A out μ w) : Acc w0 gO T e size f A out μ w.drew := by
  obtain ⟨v, h⟩ := h; exact ⟨v, h.drew⟩
theorem Acc.alloc {β : Type} {w0 : World} {gO : Nat} {T e : TypeId} {size : Nat} {f : β → Value} {A : Asrt} {out : List β} {μ : List Asrt} {w : World} (h : Acc w0 gO T e size f A out μ w) (cs : Array Value) (t : TypeId) : Acc w0 gO T e size f A out (aCel w.heap.size t cs :: μ) (w.alloc (.cells cs t)) := by
  obtain ⟨v, h⟩ := h; exact ⟨v, (h.alloc cs t).pick [1, 2, 3, 0] 4 rfl rfl⟩
theorem Acc.skip {β : Type} {w0 : World} {gO : Nat} {T e : TypeId} {size : Nat} {f : β → Value} {A : Asrt} {out : List β} {μ : List Asrt} {w : World} (h : Acc w0 gO T e size f A out μ w) (o : Obj) : Acc w0 gO T e size f A out μ (w.alloc o) := by
  obtain ⟨v, h⟩ := h; exact ⟨v, h.skip o⟩
theorem Acc.drop {β : Type} {w0 : World} {gO : Nat} {T e : TypeId} {size : Nat} {f : β → Value} {A B : Asrt} {out : List β} {μ : List Asrt} {w : World} (h : Acc w0 gO T e size f A out (B :: μ) w) : Acc w0 gO T e size f A out μ w := by
  obtain ⟨v, h⟩ := h; exact ⟨v, h.pick [0, 1, 2] 4 rfl rfl⟩
/-- What a function with one number puts. -/
def Puts1 {β : Type} (w0 : World) (gO : Nat) (T e : TypeId) (size : Nat) (f : β → Value) (A : Asrt) (c : Nat) (caps : Array Value) (g : Int → List β) : Prop :=
  (∀ p, (g p).length ≤ 1) ∧ (∀ args W, (callFunc c args).run Try.prog W = .ok (.enter c args) W) ∧ ∀ (out : List β) (p : Int) (μ : List Asrt) (w : World), out.length ≤ 5000 → Acc w0 gO T e size f A out μ w →
    Calls Try.prog c (#[.int .i64 p] ++ caps) w fun e' w' => e' = .returned (.tuple #[]) ∧ Acc w0 gO T e size f A (out ++ g p) μ w'
def Puts2 {β : Type} (w0 : World) (gO : Nat) (T e : TypeId) (size : Nat) (f : β → Value) (A : Asrt) (c : Nat) (caps : Array Value) (g : Int → Int → List β) : Prop :=
  (∀ p q, (g p q).length ≤ 1) ∧ (∀ args W, (callFunc c args).run Try.prog W = .ok (.enter c args) W) ∧ ∀ (out : List β) (p q : Int) (μ : List Asrt) (w : World), out.length ≤ 5000 → Acc w0 gO T e size f A out μ w →
    Calls Try.prog c (#[.int .i64 p, .int .i64 q] ++ caps) w fun e' w' => e' = .returned (.tuple #[]) ∧ Acc w0 gO T e size f A (out ++ g p q) μ w'
end Tr

set_option maxRecDepth 100000 in
theorem trNothing_any {β : Type} (w0 : World) (gO : Nat) (T e : TypeId) (size : Nat) (f : β → Value) (A : Asrt) : Tr.Puts1 w0 gO T e size f A 94 #[] (fun _ => []) := by
  refine ⟨fun p => by simp, fun args W => Tr.callC (c := 94) Try.func94 (by kernel_rfl) (by kernel_rfl) args W, fun out p μ w _ h => ?_⟩
  have H := Lib.hid h
  clear h
  show Calls _ _ #[.int .i64 p] _ _
  go_enter Try.func94, Try.ntmps94
  go_wp2
  go_end0
  exact ⟨rfl, by rw [List.append_nil]; exact H.out⟩

set_option maxRecDepth 100000 in
theorem trYieldPut_any (w0 : World) (gO : Nat) (A : Asrt) : Tr.Puts2 w0 gO 35 3 1 (Value.int .i64) A 95 #[.pointer (some ⟨gO, 0, none⟩)] (fun t _ => [t]) := by
  refine ⟨fun p q => by simp, fun args W => Tr.callC (c := 95) Try.func95 (by kernel_rfl) (by kernel_rfl) args W, fun out p q μ w hl h => ?_⟩
  obtain ⟨v, hst⟩ := h
  obtain ⟨ao, cap, rfl⟩ := (hst.ownAt 1 rfl).isLen
  rw [List.length_map] at hst
  obtain ⟨q0, q1⟩ := Tr.cel1 hst 0 rfl
  have HST := Lib.hid (hst.pick [1, 0, 2] 3 rfl rfl)
  clear hst
  show Calls _ _ #[.int .i64 p, .int .i64 q, .pointer (some ⟨gO, 0, none⟩)] _ _
  go_enter Try.func95, Try.ntmps95
  go_wp2_with (refine St.app1n (o := ⟨some 8, _, _, _, _, _⟩) intE ?a1 (.tmp 5) (.tmp 7) ?a2 ?a3 HST.out (.int .i64 p) ?a4 w.heap.size 1 ?a5 ?a6 ?a7 ?a8 ?a9 ?a10 ?a11; (case a1 => rfl); (case a2 => rfl); (case a6 => rfl); (case a7 => rfl); (case a4 => rfl); (case a3 => rfl); (case a5 => rfl); (case a8 => (intro q hq; simp [Value.cells] at hq; subst hq; rfl)); (case a9 => (rw [List.length_map]; unfold maxLen; omega)); (case a10 => (rw [List.length_map]; omega)); intro g' n' c' w9 hst9; clear HST q0 q1; obtain ⟨q0, q1⟩ := Tr.cel1 hst9 1 rfl; have HST9 := Lib.hid (hst9.get2.setCel 0 (.slice (some ⟨g', 0, none⟩) n' c')); clear hst9)
  go_end0
  exact ⟨rfl, _, by rw [List.map_append]; exact HST9.out⟩

set_option maxRecDepth 100000 in
theorem trDownPut (w0 : World) (gO gK : Nat) (kind n : Int) (out : List (Int × Int)) (v : Value) (μ : List Asrt) (w : World) (hl : out.length ≤ 5000) (hk : w.cell? ⟨gK, 0, none⟩ = some (.int .i64 kind)) (hst : St w0 w (aCel gO 75 #[v] :: aOwn 81 2 v (out.map pairV) :: μ)) :
    Calls Try.prog 97 #[.int .i64 n, .pointer (some ⟨gO, 0, none⟩), .pointer (some ⟨gK, 0, none⟩)] w fun e w' => e = .returned (.tuple #[]) ∧ ∃ v', St w0 w' (aCel gO 75 #[v'] :: aOwn 81 2 v' ((out ++ [(kind, n)]).map pairV) :: μ) := by
  obtain ⟨ao, cap, rfl⟩ := (hst.ownAt 1 rfl).isLen
  rw [List.length_map] at hst
  obtain ⟨q0, q1⟩ := Tr.cel1 hst 0 rfl
  have HST := Lib.hid hst.get2
  clear hst
  go_enter Try.func97, Try.ntmps97
  go_wp2_with (refine St.app1n (o := ⟨some 9, _, _, _, _, _⟩) Tr.evtE ?a1 (.tmp 4) (.tmp 8) ?a2 ?a3 HST.out (pairV (kind, n)) ?a4 w.heap.size 1 ?a5 ?a6 ?a7 ?a8 ?a9 ?a10 ?a11; (case a1 => rfl); (case a2 => rfl); (case a6 => rfl); (case a7 => rfl); (case a4 => rfl); (case a3 => rfl); (case a5 => rfl); (case a8 => exact Tr.pairOne _); (case a9 => (rw [List.length_map]; unfold maxLen; omega)); (case a10 => (rw [List.length_map]; omega)); intro g' n' c' w9 hst9; clear HST q0 q1 hk; obtain ⟨q0, q1⟩ := Tr.cel1 hst9 1 rfl; have HST9 := Lib.hid (hst9.get2.setCel 0 (.slice (some ⟨g', 0, none⟩) n' c')); clear hst9)
  go_end0
  exact ⟨rfl, _, by rw [List.map_append]; exact HST9.out⟩

theorem trDownKind (w0 : World) (gO gK : Nat) (kind : Int) (A : Asrt) (hA : ∀ w, A.ok w → w.cell? ⟨gK, 0, none⟩ = some (.int .i64 kind)) : Tr.Puts1 w0 gO 75 81 2 pairV A 97 #[.pointer (some ⟨gO, 0, none⟩), .pointer (some ⟨gK, 0, none⟩)] (fun n => [(kind, n)]) := by
  refine ⟨fun p => by simp, fun args W => Tr.callC (c := 97) Try.func97 (by kernel_rfl) (by kernel_rfl) args W, fun out p μ w hl h => ?_⟩
  obtain ⟨v, hst⟩ := h
  exact trDownPut w0 gO gK kind p out v (A :: μ) w hl (hA w (hst.ok A (.tail _ (.tail _ (.head _))))) hst

set_option maxRecDepth 100000 in
theorem trDownMk (gO : Nat) (kind : Int) (w : World) :
    Calls Try.prog 96 #[.int .i64 kind, .pointer (some ⟨gO, 0, none⟩)] w fun e w' => e = .returned (.func (.func 97) #[] #[.pointer (some ⟨gO, 0, none⟩), .pointer (some ⟨w.heap.size, 0, none⟩)]) ∧ w' = w.alloc (.cells #[.int .i64 kind] 3) := by
  go_enter Try.func96, Try.ntmps96
  go_wp2
  go_ret
  exact ⟨rfl, rfl⟩

set_option maxRecDepth 100000 in
theorem trDownLeaf (w0 : World) (gO gP : Nat) (A : Asrt) (hA : ∀ w, A.ok w → w.cell? ⟨gP, 0, none⟩ = some (.func (.func 96) #[] #[.pointer (some ⟨gO, 0, none⟩)])) : Tr.Puts2 w0 gO 75 81 2 pairV A 98 #[.pointer (some ⟨gP, 0, none⟩)] (fun _ n => [(2, n)]) := by
  refine ⟨fun p q => by simp, fun args W => Tr.callC (c := 98) Try.func98 (by kernel_rfl) (by kernel_rfl) args W, fun out p n μ w hl h => ?_⟩
  have hcf1 := fun args W => Tr.callC (c := 96) Try.func96 (by kernel_rfl) (by kernel_rfl) args W
  have hcf2 := fun args W => Tr.callC (c := 97) Try.func97 (by kernel_rfl) (by kernel_rfl) args W
  obtain ⟨v, hst⟩ := h
  have hg := hA w (hst.ok A (.tail _ (.tail _ (.head _))))
  have HST := Lib.hid (hst.skip (.cells #[.int .i64 2] 3))
  clear hst hA
  show Calls _ _ #[.int .i64 p, .int .i64 n, .pointer (some ⟨gP, 0, none⟩)] _ _
  go_enter Try.func98, Try.ntmps98
  go_wp2_with (fail)
  go_at_call 96
  refine (trDownMk gO 2 w).mono ?_
  rintro e w1 ⟨rfl, rfl⟩
  clear hg
  go_wp2_with (fail)
  go_at_call 97
  refine (trDownPut w0 gO w.heap.size 2 n out v (A :: μ) _ hl (cell_new w _ _) HST.out).mono ?_
  rintro e w2 ⟨rfl, v', hst2⟩
  have HST2 := Lib.hid hst2
  clear hst2
  go_wp2
  go_end0
  exact ⟨rfl, v', HST2.out⟩

set_option maxRecDepth 100000 in
theorem trUpPut (w0 : World) (gO gK : Nat) (kind n : Int) (out : List (Int × Int)) (v : Value) (μ : List Asrt) (w : World) (hl : out.length ≤ 5000) (hk : w.cell? ⟨gK, 0, none⟩ = some (.int .i64 kind)) (hst : St w0 w (aCel gO 75 #[v] :: aOwn 81 2 v (out.map pairV) :: μ)) :
    Calls Try.prog 100 #[.int .i64 n, .pointer (some ⟨gO, 0, none⟩), .pointer (some ⟨gK, 0, none⟩)] w fun e w' => e = .returned (.tuple #[]) ∧ ∃ v', St w0 w' (aCel gO 75 #[v'] :: aOwn 81 2 v' ((out ++ [(kind, n)]).map pairV) :: μ) := by
  obtain ⟨ao, cap, rfl⟩ := (hst.ownAt 1 rfl).isLen
  rw [List.length_map] at hst
  obtain ⟨q0, q1⟩ := Tr.cel1 hst 0 rfl
  have HST := Lib.hid hst.get2
  clear hst
  go_enter Try.func100, Try.ntmps100
  go_wp2_with (refine St.app1n (o := ⟨some 9, _, _, _, _, _⟩) Tr.evtE ?a1 (.tmp 4) (.tmp 8) ?a2 ?a3 HST.out (pairV (kind, n)) ?a4 w.heap.size 1 ?a5 ?a6 ?a7 ?a8 ?a9 ?a10 ?a11; (case a1 => rfl); (case a2 => rfl); (case a6 => rfl); (case a7 => rfl); (case a4 => rfl); (case a3 => rfl); (case a5 => rfl); (case a8 => exact Tr.pairOne _); (case a9 => (rw [List.length_map]; unfold maxLen; omega)); (case a10 => (rw [List.length_map]; omega)); intro g' n' c' w9 hst9; clear HST q0 q1 hk; obtain ⟨q0, q1⟩ := Tr.cel1 hst9 1 rfl; have HST9 := Lib.hid (hst9.get2.setCel 0 (.slice (some ⟨g', 0, none⟩) n' c')); clear hst9)
  go_end0
  exact ⟨rfl, _, by rw [List.map_append]; exact HST9.out⟩

theorem trUpKind (w0 : World) (gO gK : Nat) (kind : Int) (A : Asrt) (hA : ∀ w, A.ok w → w.cell? ⟨gK, 0, none⟩ = some (.int .i64 kind)) : Tr.Puts1 w0 gO 75 81 2 pairV A 100 #[.pointer (some ⟨gO, 0, none⟩), .pointer (some ⟨gK, 0, none⟩)] (fun n => [(kind, n)]) := by
  refine ⟨fun p => by simp, fun args W => Tr.callC (c := 100) Try.func100 (by kernel_rfl) (by kernel_rfl) args W, fun out p μ w hl h => ?_⟩
  obtain ⟨v, hst⟩ := h
  exact trUpPut w0 gO gK kind p out v (A :: μ) w hl (hA w (hst.ok A (.tail _ (.tail _ (.head _))))) hst

set_option maxRecDepth 100000 in
theorem trUpMk (gO : Nat) (kind : Int) (w : World) :
    Calls Try.prog 99 #[.int .i64 kind, .pointer (some ⟨gO, 0, none⟩)] w fun e w' => e = .returned (.func (.func 100) #[] #[.pointer (some ⟨gO, 0, none⟩), .pointer (some ⟨w.heap.size, 0, none⟩)]) ∧ w' = w.alloc (.cells #[.int .i64 kind] 3) := by
  go_enter Try.func99, Try.ntmps99
  go_wp2
  go_ret
  exact ⟨rfl, rfl⟩

set_option maxRecDepth 100000 in
theorem trUpLeaf (w0 : World) (gO gP : Nat) (A : Asrt) (hA : ∀ w, A.ok w → w.cell? ⟨gP, 0, none⟩ = some (.func (.func 99) #[] #[.pointer (some ⟨gO, 0, none⟩)])) : Tr.Puts2 w0 gO 75 81 2 pairV A 101 #[.pointer (some ⟨gP, 0, none⟩)] (fun _ n => [(2, n)]) := by
  refine ⟨fun p q => by simp, fun args W => Tr.callC (c := 101) Try.func101 (by kernel_rfl) (by kernel_rfl) args W, fun out p n μ w hl h => ?_⟩
  have hcf1 := fun args W => Tr.callC (c := 99) Try.func99 (by kernel_rfl) (by kernel_rfl) args W
  have hcf2 := fun args W => Tr.callC (c := 100) Try.func100 (by kernel_rfl) (by kernel_rfl) args W
  obtain ⟨v, hst⟩ := h
  have hg := hA w (hst.ok A (.tail _ (.tail _ (.head _))))
  have HST := Lib.hid (hst.skip (.cells #[.int .i64 2] 3))
  clear hst hA
  show Calls _ _ #[.int .i64 p, .int .i64 n, .pointer (some ⟨gP, 0, none⟩)] _ _
  go_enter Try.func101, Try.ntmps101
  go_wp2_with (fail)
  go_at_call 99
  refine (trUpMk gO 2 w).mono ?_
  rintro e w1 ⟨rfl, rfl⟩
  clear hg
  go_wp2_with (fail)
  go_at_call 100
  refine (trUpPut w0 gO w.heap.size 2 n out v (A :: μ) _ hl (cell_new w _ _) HST.out).mono ?_
  rintro e w2 ⟨rfl, v', hst2⟩
  have HST2 := Lib.hid hst2
  clear hst2
  go_wp2
  go_end0
  exact ⟨rfl, v', HST2.out⟩
end Go.Proofs.Ytldapomcjfkeeaa
