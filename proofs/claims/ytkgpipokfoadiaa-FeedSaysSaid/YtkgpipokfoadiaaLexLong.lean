/-
  Longest of the reference: what it computes.
-/
import Derived.Test.YtkgpipokfoadiaaDfaTag
import Derived.Test.YtkgpipokfoadiaaWide
import Derived.Test.YtkgpipokfoadiaaLexOne
namespace Go.Proofs.Ytkgpipokfoadiaa
set_option linter.unusedVariables false
open Go.ChangeShapes Go.WideShapes Go.ChangeAt Go.RowKit

namespace Lx
theorem row_nx (of : List Int) (next : List (List Int)) (q : Nat) (hq : q < next.length) (c : UInt8) : ((Wd.rows of next next.length).getD q []).getD c.toNat 0 = nx of next q c := by
  have hc := c.toNat_lt
  have h1 : (Wd.rows of next next.length).getD q [] = Wd.rowOf of (next.getD q []) := by
    unfold Wd.rows
    simp [List.getD, hq]
  rw [h1]
  have h2 := Wd.rowOf_get of (next.getD q []) c.toNat (by omega)
  unfold nx
  rw [← h2]
  simp [List.getD, Wd.rowOf_len, show c.toNat < 256 by omega]
/-- As 'go', from a state that may be none. -/
def goI (of : List Int) (next : List (List Int)) (tags : List Int) (l : List UInt8) (q k : Int) (b : Int × Int) : Int × Int := if q < 0 then b else go of next tags l q.toNat k b
theorem goI_neg {of next tags l q k b} (h : q < 0) : goI of next tags l q k b = b := by rw [goI, if_pos h]
theorem goI_nat {of next tags l k b} {q : Nat} : goI of next tags l q k b = go of next tags l q k b := by rw [goI, if_neg (by omega), Int.toNat_natCast]
theorem tagOf_tg (tags : List Int) (q : Nat) : Aut.tagOf tags q = tg tags q := by unfold Aut.tagOf tg; rw [if_neg (by omega)]
end Lx

set_option maxRecDepth 100000 in
set_option maxHeartbeats 4000000 in
theorem longest_any (v : Value) (of : List Int) (next : List (List Int)) (tags : List Int) (s : ByteArray) (hs : s.size ≤ 140737488355328) (w : World) (hd : DfaAt w v (Wd.rows of next next.length) tags) (hg : Pkd.Good of next tags) (h200 : next.length ≤ 200) :
    Calls Try.prog 33 #[v, .string s] w fun e w' => e = .returned (.tuple #[.int .i64 (Lx.longest of next tags s.data.toList).1, .int .i64 (Lx.longest of next tags s.data.toList).2]) ∧ Below w.heap.size w w' := by
  have HD := Lib.hid hd
  obtain ⟨v0, v1, rfl, hr, ht⟩ := hd
  obtain ⟨a1, n1, k1, rfl⟩ : ∃ a n c, v1 = .slice a n c := by obtain ⟨ao, _, _, cap, h1, _⟩ := ht; exact ⟨_, _, _, h1⟩
  obtain ⟨ao, b, off, cap, rfl, c1, c2, c3, c4, c5⟩ := slRows hr
  unfold maxLen at c2
  have hlen : (Wd.rows of next next.length).length = next.length := Wd.rows_len _ _ _
  have hn0 := hg.n0
  obtain ⟨rfl, hb⟩ := c3 (by omega)
  have HG := Lib.hid hg
  have C4 : Hid (∀ q, q < next.length → ∀ c : UInt8, w.cell? ⟨b, off + q * 256 + c.toNat, none⟩ = some (.int .i16 (Lx.nx of next q c)) ∧ -1 ≤ Lx.nx of next q c ∧ Lx.nx of next q c < next.length) := Lib.hid (fun q hq c => by
    have hc := c.toNat_lt
    have h5 := c5 q (by rw [hlen]; exact hq)
    have h4 := c4 q (by rw [hlen]; exact hq) c.toNat _ (Aut.row_get _ _ (by rw [h5.1]; omega))
    rw [Lx.row_nx of next q hq c] at h4
    have h6 := (hg.rows q hq).2
    have h7 := hg.cols c.toNat (by omega)
    have h9 := hg.w0
    have h8 : -1 ≤ Lx.nx of next q c ∧ Lx.nx of next q c < next.length := by
      unfold Lx.nx
      rcases Nat.lt_or_ge (of.getD c.toNat 0).toNat (Pkd.wide next) with e | e
      · exact h6.2 _ e
      · omega
    exact ⟨h4, h8⟩)
  have HTL := Lib.hid hg.tl
  have HL := Lib.hid hlen
  rw [hlen] at HD c1 ⊢
  clear hr ht c3 c4 c5 hlen hg
  generalize hX : Lx.longest of next tags s.data.toList = X
  have HX : Hid (Lx.goI of next tags (s.data.toList.drop 0) 0 0 (0, 0) = X) := Lib.hid (by rw [← hX, List.drop_zero]; unfold Lx.longest; rfl)
  clear hX
  have hst := (St.init w).alloc #[.slice (some ⟨b, off, none⟩) next.length cap, .slice a1 n1 k1] 66
  go_enter Try.func33, Try.ntmps33
  go_wp2
  generalize (w.alloc (.cells #[.slice (some ⟨b, off, none⟩) next.length cap, .slice a1 n1 k1] 66)) = W at hst ⊢
  go_loopw [4, 5, 6, 7] (fun r t now i wr => ∃ (k : Nat) (q rr tt : Int), k ≤ s.size ∧ i = .int .i64 k ∧ now = .int .i64 q ∧ r = .int .i64 rr ∧ t = .int .i64 tt ∧ -1 ≤ q ∧ q < next.length ∧ St w wr [aCel w.heap.size 66 #[.slice (some ⟨b, off, none⟩) next.length cap, .slice a1 n1 k1]] ∧ Hid (Lx.goI of next tags (s.data.toList.drop k) q k (rr, tt) = X)) (fun _ _ _ i _ => s.size - (intOf i).toNat)
  case atStart => exact ⟨0, 0, 0, 0, by omega, rfl, rfl, rfl, rfl, by omega, by omega, hst, HX⟩
  case round =>
    clear hst HX
    obtain ⟨k, q, rr, tt, hk, rfl, rfl, rfl, rfl, hq0, hq1, hst, hgo⟩ := hrel
    by_cases hlt : k < s.size
    · by_cases hneg : q < 0
      · have he := hgo.out
        rw [Lx.goI_neg hneg] at he
        subst he
        clear hgo
        go_wp2
        go_ret2
        exact ⟨rfl, hst.bel⟩
      · obtain ⟨q, rfl⟩ := Int.eq_ofNat_of_zero_le (show 0 ≤ q by omega)
        have hgo2 := hgo.out
        rw [Lx.goI_nat, bytes_drop s k hlt] at hgo2
        obtain ⟨g1, g2, g3⟩ := C4.out q (by omega) s[k]
        have hc := s[k].toNat_lt
        have hc2 : (s[k].toNat : Int) < 256 := by omega
        have d1 := (hst.bel.cell (p := ⟨b, off + q * 256 + s[k].toNat, none⟩) hb).trans g1
        have d2 := hst.celAt (i := 0) rfl
        have d3 := hst.celAt (i := 1) rfl
        generalize hy : Lx.nx of next q s[k] = y at *
        have HY := Lib.hid hy; clear hy g1 hgo
        have hyb1 : -32768 ≤ y := by omega
        have hyb2 : y ≤ 32767 := by omega
        have HGO := Lib.hid hgo2; clear hgo2
        have hstD := Lib.hid hst
        clear hst
        go_wp2
        have hwr : IntKind.i64.wrap y = y := IntWalk.i64_in _ ⟨by omega, by omega⟩
        go_still_tail 10, (by kernel_rfl)
        change wpList _ _ _ _ _ wr.drew
        have e1 : wr.drew.cell? ⟨b, off + q * 256 + s[k].toNat, none⟩ = _ := d1
        have e2 : wr.drew.cell? ⟨w.heap.size, 0, none⟩ = _ := d2
        have e3 : wr.drew.cell? ⟨w.heap.size, 1, none⟩ = _ := d3
        have hst := hstD.out.drew
        generalize wr.drew = wd at *
        clear d1 d2 d3 hstD hwr
        have hyt : y < tags.length := by have := HTL.out; omega
        go_wp2_with (fail)
        go_at_call 79
        refine (rtagOf_any _ (Wd.rows of next next.length) tags y _ (HD.out.below hst.bel) hyt).mono ?_
        rintro e w3 ⟨rfl, hb3⟩
        replace hst := hst.call hb3
        clear hb3 e1 e2 e3
        have e2 := hst.celAt (i := 0) rfl
        have e3 := hst.celAt (i := 1) rfl
        by_cases hyn : y < 0
        · have ht : Aut.tagOf tags y = -1 := by unfold Aut.tagOf; rw [if_pos hyn]
          rw [ht]
          have hgo2 := HGO.out
          rw [Lx.go_stop (by rw [HY.out]; exact hyn)] at hgo2
          clear ht
          have HGO2 := Lib.hid hgo2; clear hgo2
          go_wp2
          go_roundw
          case rel => exact ⟨k + 1, y, rr, tt, by omega, by go_num, rfl, rfl, rfl, by omega, by omega, hst, Lib.hid (by rw [Lx.goI_neg hyn]; exact HGO2.out)⟩
          case measure => simp [intOf]; omega
        · obtain ⟨y, rfl⟩ := Int.eq_ofNat_of_zero_le (show 0 ≤ y by omega)
          rw [Lx.tagOf_tg]
          generalize hu : Lx.tg tags y = u
          have HU := Lib.hid hu; clear hu
          have hgo2 := HGO.out
          by_cases hu0 : 0 ≤ u
          · rw [Lx.go_hit (by rw [HY.out]; omega) (by rw [HY.out, HU.out]; exact hu0), HY.out, HU.out, Int.toNat_natCast] at hgo2
            have HGO2 := Lib.hid hgo2; clear hgo2
            go_wp2_with (fail)
            go_at_call 79
            refine (rtagOf_any _ (Wd.rows of next next.length) tags y _ (HD.out.below hst.bel) hyt).mono ?_
            rintro e w4 ⟨rfl, hb4⟩
            replace hst := hst.call hb4
            rw [Lx.tagOf_tg, HU.out]
            clear hb4 e2 e3
            go_wp2
            go_roundw
            case rel => exact ⟨k + 1, y, u, k + 1, by omega, by go_num, rfl, rfl, by go_num, by omega, by omega, hst, Lib.hid (by rw [Lx.goI_nat]; simpa using HGO2.out)⟩
            case measure => simp [intOf]; omega
          · rw [Lx.go_miss (by rw [HY.out]; omega) (by rw [HY.out, HU.out]; exact hu0), HY.out, Int.toNat_natCast] at hgo2
            have HGO2 := Lib.hid hgo2; clear hgo2
            go_wp2
            go_roundw
            case rel => exact ⟨k + 1, y, rr, tt, by omega, by go_num, rfl, rfl, rfl, by omega, by omega, hst, Lib.hid (by rw [Lx.goI_nat]; simpa using HGO2.out)⟩
            case measure => simp [intOf]; omega
    · have he := hgo.out
      rw [bytes_end s k (by omega)] at he
      have he2 : (rr, tt) = X := by rw [← he]; unfold Lx.goI; split; (· rfl); (· rw [Lx.go_nil])
      subst he2
      clear hgo he
      go_wp2
      go_ret2
      exact ⟨rfl, hst.bel⟩
end Go.Proofs.Ytkgpipokfoadiaa
