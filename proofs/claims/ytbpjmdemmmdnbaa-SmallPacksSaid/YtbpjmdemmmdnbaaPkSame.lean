/-
  SamePacked of the law: two that read alike are the same.
-/
import Derived.Test.YtbpjmdemmmdnbaaLlEq
import Derived.Test.YtbpjmdemmmdnbaaArrEq
namespace Go.Proofs.Ytbpjmdemmmdnbaa
set_option linter.unusedVariables false
set_option linter.unusedSimpArgs false
open Go.ChangeShapes Go.WideShapes Go.ChangeAt Go.RowKit

theorem Pk.range {w : World} {b : Nat} {A : Array Value} {T : TypeId} {mid post : List Value} (h : w.heap[b]? = some (.cells A T (0, 0))) (hA : A.toList = mid ++ post) : w.rangeAt b 0 mid := by
  intro j x hx
  have hlt := (List.getElem?_eq_some_iff.1 hx).1
  have h2 : A[j]? = some x := by
    rw [← Array.getElem?_toList, hA, List.getElem?_append_left hlt]; exact hx
  simp [World.cell?, h, h2]
theorem Pk.at {w : World} {b : Nat} {A : Array Value} {T : TypeId} {mid : List Value} {v t : Value} (h : w.heap[b]? = some (.cells A T (0, 0))) (hA : A.toList = mid ++ [v, t]) (hm : mid.length = 256) : w.cell? ⟨b, 256, none⟩ = some v ∧ w.cell? ⟨b, 257, none⟩ = some t := by
  have h2 : A[256]? = some v := by
    rw [← Array.getElem?_toList, hA, List.getElem?_append_right (by omega), hm]; rfl
  have h3 : A[257]? = some t := by
    rw [← Array.getElem?_toList, hA, List.getElem?_append_right (by omega), hm]; rfl
  exact ⟨by simp [World.cell?, h, h2], by simp [World.cell?, h, h3]⟩

set_option maxRecDepth 100000 in
set_option maxHeartbeats 4000000 in
theorem samePacked_any (of : List Int) (hof : of.length = 256) (A1 A2 : Array Value) (v1 v2 t1 t2 : Value) (L1 L2 : List Ll.SV) (rows : List (List Int)) (tags : List Int) (w : World)
    (hA1 : A1.toList = of.map (Value.int .u8) ++ [v1, t1]) (hA2 : A2.toList = of.map (Value.int .u8) ++ [v2, t2])
    (h1 : Row1 Ll.slV (none, 0, 0) w v1 L1) (h2 : Row1 Ll.slV (none, 0, 0) w v2 L2) (hl1 : L1.length = rows.length) (hl2 : L2.length = rows.length)
    (he : ∀ k, k < rows.length → Row1 Ll.iV 0 w (Ll.slV (L1.getD k (none, 0, 0))) (rows.getD k []) ∧ Row1 Ll.iV 0 w (Ll.slV (L2.getD k (none, 0, 0))) (rows.getD k []))
    (g1 : Row1 Ll.iV 0 w t1 tags) (g2 : Row1 Ll.iV 0 w t2 tags) :
    Calls Try.prog 13 #[.agg A1, .agg A2] w fun e w' => e = .returned (.bool true) ∧ Below w.heap.size w w' := by
  have hs1 : A1.size = 258 := by rw [← Array.length_toList, hA1]; simp [hof]
  have hs2 : A2.size = 258 := by rw [← Array.length_toList, hA2]; simp [hof]
  have hst := ((St.init w).alloc A1 36).alloc A2 36
  simp only [World.size_alloc] at hst
  have k1 := hst.heapAt 1 rfl
  have k2 := hst.heapAt 0 rfl
  have R1 := Lib.hid (Pk.range k1 hA1)
  have R2 := Lib.hid (Pk.range k2 hA2)
  obtain ⟨x0, x1⟩ := Pk.at k1 hA1 (by simp [hof])
  obtain ⟨y0, y1⟩ := Pk.at k2 hA2 (by simp [hof])
  have heq := fun W => run_eql_arr (P := Try.prog) (k := .u8) Try.underlying33 Try.underlying5 (by kernel_rfl) of hof W
  have hsz : (Try.prog.info? 33).map (·.size) = some (of.map (Value.int .u8)).length := by rw [List.length_map, hof]; kernel_rfl
  have HSZ := Lib.hid hsz
  have HST := Lib.hid hst
  have HA1 := Lib.hid hA1; have HA2 := Lib.hid hA2; have HOF := Lib.hid hof
  clear hst k1 k2 hs1 hs2 hA1 hA2 hsz
  go_enter Try.func13, Try.ntmps13
  go_wp2_with (first | (refine wpList_load_mid rfl 33 (.tmp 5) rfl w.heap.size 0 rfl (of.map (Value.int .u8)) _ R1.out Try.underlying33 rfl HSZ.out ?_) | (refine wpList_load_mid rfl 33 (.tmp 7) rfl (w.heap.size + 1) 0 rfl (of.map (Value.int .u8)) _ R2.out Try.underlying33 rfl HSZ.out ?_))
  have hb := HST.out.bel
  refine (eqRowsF _ (h1.below hb) (h2.below hb) hl1 hl2 (fun k hk => ⟨(he k hk).1.below hb, (he k hk).2.below hb⟩)).mono ?_
  rintro e w1 ⟨rfl, hb1⟩
  have hst1 := HST.out.call hb1
  have k1 := hst1.heapAt 1 rfl
  have k2 := hst1.heapAt 0 rfl
  obtain ⟨x0, x1⟩ := Pk.at k1 HA1.out (by simp [HOF.out])
  obtain ⟨y0, y1⟩ := Pk.at k2 HA2.out (by simp [HOF.out])
  have HST1 := Lib.hid hst1
  clear hst1 k1 k2 hb hb1
  go_wp2_with (fail)
  go_at_call 42
  refine (eqI64 _ (g1.below HST1.out.bel) (g2.below HST1.out.bel)).mono ?_
  rintro e w2 ⟨rfl, hb2⟩
  have HST2 := Lib.hid (HST1.out.call hb2)
  go_wp2
  go_ret
  exact ⟨by simp, HST2.out.bel⟩
end Go.Proofs.Ytbpjmdemmmdnbaa
