/-
  look of package feed, stuck of the reference: what they compute.
-/
import Derived.Test.YtkgpipokfoadiaaLexOne
import Derived.Test.YtkgpipokfoadiaaFeedP
namespace Go.Proofs.Ytkgpipokfoadiaa
set_option linter.unusedVariables false
open Go.ChangeShapes Go.WideShapes Go.ChangeAt Go.RowKit

theorem nonempty' {s : ByteArray} (h : s.size ≠ 0) : (!s.toList.isEmpty) = true := by
  rw [ByteArray.toList_eq]
  cases hs : s.data.toList with
  | nil => exfalso; apply h; have : s.data.toList.length = 0 := by rw [hs]; rfl
           simpa using this
  | cons _ _ => rfl
theorem packed_rows {w : World} {A : Array Value} {of : List Int} {next : List (List Int)} {tags : List Int} {b off cap : Nat} {vt : Value} (hp : PackedAt w A of next tags (.slice (some ⟨b, off, none⟩) next.length cap) vt) (hg : Pkd.Good of next tags) :
    ∀ q, q < next.length → ∃ bk ok capk : Nat, w.cell? ⟨b, off + q, none⟩ = some (.slice (some ⟨bk, ok, none⟩) (next.getD q []).length capk) ∧ bk < w.heap.size ∧ (next.getD q []).length ≤ 256 ∧
      ∀ j, j < (next.getD q []).length → w.cell? ⟨bk, ok + j, none⟩ = some (.int .i64 ((next.getD q []).getD j 0)) ∧ -1 ≤ (next.getD q []).getD j 0 ∧ (next.getD q []).getD j 0 < next.length := by
  obtain ⟨ao, b', off', cap', hv, n1, n2, n3, n4⟩ := slSls hp.nexts
  have hn0 := hg.n0
  obtain ⟨h1, _⟩ := n3 (by omega)
  simp only [Value.slice.injEq] at hv
  rw [h1] at hv
  simp only [Option.some.injEq, Addr.mk.injEq] at hv
  obtain ⟨⟨rfl, rfl, _⟩, _, rfl⟩ := hv
  intro q hq
  obtain ⟨vi, hv, hs⟩ := n4 q hq
  obtain ⟨ak, bk, ok, capk, rfl, r1, r2, r3, r4, r5⟩ := slInts hs
  obtain ⟨_, h2⟩ := hg.rows q hq
  have hw0 := hg.w0; have hw1 := hg.w1
  have hl := h2.1
  obtain ⟨rfl, hbk⟩ := r3 (by omega)
  exact ⟨bk, ok, capk, hv, hbk, by omega, fun j hj => ⟨r4 j hj, h2.2 j (by omega)⟩⟩

set_option maxRecDepth 100000 in
set_option maxHeartbeats 4000000 in
theorem look_any (A : Array Value) (of : List Int) (next : List (List Int)) (tags : List Int) (vn vt : Value) (s : ByteArray) (hs : s.size ≤ 140737488355328) (hne : s.data.toList ≠ []) (w : World) (hp : PackedAt w A of next tags vn vt) (hg : Pkd.Good of next tags) :
    Calls Try.prog 100 #[.agg A, .string s] w fun e w' => e = .returned (.tuple #[.int .i64 (Lx.longest of next tags s.data.toList).1, .int .i64 (Lx.longest of next tags s.data.toList).2, .bool (Lx.cert of next s.data.toList 0)]) ∧ Below w.heap.size w w' := by
  have c256 := hp.c256; have c257 := hp.c257; have hA := hp.size
  obtain ⟨b, off, cap, bt, ot, capt, rfl, rfl, hb, hbt, hstep, htag⟩ := packed_open hp hg
  have HRW := Lib.hid (packed_rows hp hg)
  have HS := Lib.hid hstep; have HT := Lib.hid htag
  have hn0 := hg.n0
  have HTL := Lib.hid hg.tl
  clear hstep htag hp hg
  have hst := (St.init w).alloc A 55
  have C256 := Lib.hid c256; have C257 := Lib.hid c257; clear c256 c257
  have HA := Lib.hid hA; clear hA
  generalize hX : Lx.longest of next tags s.data.toList = X
  have HX : Hid (Lx.go of next tags (s.data.toList.drop 0) 0 0 (0, 0) = X) := Lib.hid (by rw [← hX, List.drop_zero]; unfold Lx.longest; rfl)
  clear hX
  generalize hC : Lx.cert of next s.data.toList 0 = C
  have HC : Hid (Lx.cert of next (s.data.toList.drop 0) 0 = C) := Lib.hid (by rw [← hC, List.drop_zero])
  clear hC
  have hsz : 0 < s.size := by
    rcases Nat.eq_zero_or_pos s.size with h | h
    · exact absurd (List.eq_nil_of_length_eq_zero (by simpa using h)) hne
    · exact h
  have hse : s.toList.isEmpty = false := by have := nonempty' (s := s) (by omega); simpa using this
  have hse2 := nonempty' (s := s) (by omega)
  have HNE := Lib.hid hne; clear hne
  go_enter Try.func100, Try.ntmps100
  go_wp2
  generalize w.alloc (.cells A 55) = W at hst ⊢
  go_loopw [4, 5, 7, 8, 13] (fun r t now _ i wr => ∃ (k q : Nat) (rr tt : Int), k ≤ s.size ∧ i = .int .i64 k ∧ now = .int .i64 q ∧ r = .int .i64 rr ∧ t = .int .i64 tt ∧ q < next.length ∧ St w wr [aCel w.heap.size 55 A] ∧ Hid (Lx.go of next tags (s.data.toList.drop k) q k (rr, tt) = X) ∧ Hid (Lx.cert of next (s.data.toList.drop k) q = C)) (fun _ _ _ _ i _ => s.size - (intOf i).toNat)
  case atStart => exact ⟨0, 0, 0, 0, by omega, rfl, rfl, rfl, rfl, by omega, hst, HX, HC⟩
  case round =>
    clear hst HX HC
    obtain ⟨k, q, rr, tt, hk, rfl, rfl, rfl, rfl, hq, hst, hgo, hce⟩ := hrel
    by_cases hlt : k < s.size
    · obtain ⟨m, bk, ok, n, capk, a1, a2, a3, a4, a5, a6, a7, a8⟩ := HS.out q hq s[k]
      have c1 := hst.celAt C256.out
      have c2 := hst.celAt a1
      have c3 := (hst.bel.cell (p := ⟨b, off + q, none⟩) hb).trans a5
      have c4 := (hst.bel.cell (p := ⟨bk, ok + m, none⟩) a4).trans a6
      have HST := Lib.hid hst
      have hc := s[k].toNat_lt
      have hc2 : (s[k].toNat : Int) < 256 := by omega
      have hc3 : (0 : Int) ≤ (s[k].toNat : Int) := by omega
      have hgo2 := hgo.out; have hce2 := hce.out
      rw [bytes_drop s k hlt] at hgo2 hce2
      generalize hy : Lx.nx of next q s[k] = y at *
      have HY := Lib.hid hy
      clear hst a1 a5 a6 hy hgo hce
      have HG := Lib.hid hgo2; have HCE := Lib.hid hce2; clear hgo2 hce2
      by_cases hneg : y < 0
      · have he := HG.out; have hc9 := HCE.out
        rw [Lx.go_stop (by rw [HY.out]; exact hneg)] at he
        rw [Lx.cert_stop (by rw [HY.out]; exact hneg)] at hc9
        subst he hc9
        go_wp2
        go_still_tail 13, (by kernel_rfl)
        change wpList _ _ _ _ _ wr.drew
        have d1 : wr.drew.cell? ⟨w.heap.size, 256, none⟩ = _ := c1
        have d2 : wr.drew.cell? ⟨w.heap.size, s[k].toNat, none⟩ = _ := c2
        have d3 : wr.drew.cell? ⟨b, off + q, none⟩ = _ := c3
        have d4 : wr.drew.cell? ⟨bk, ok + m, none⟩ = _ := c4
        have HD := Lib.hid HST.out.drew
        generalize wr.drew = wd at *
        clear c1 c2 c3 c4
        go_wp2
        refine bodyPost_ret (v := .tuple #[.int .i64 rr, .int .i64 tt, .bool true]) (by simp [results, Try.results100, go_sem]) rfl ⟨rfl, HD.out.bel⟩
      · obtain ⟨y, rfl⟩ := Int.eq_ofNat_of_zero_le (show 0 ≤ y by omega)
        obtain ⟨g1, g2, g3⟩ := HT.out y (by omega)
        have g4 := (HST.out.bel.cell (p := ⟨bt, ot + y, none⟩) hbt).trans g1
        have g5 := HST.out.celAt C257.out
        generalize hu : Lx.tg tags y = u at *
        have HU := Lib.hid hu
        clear g1 hu
        have hyt : y < tags.length := by have := HTL.out; omega
        have he := HG.out; have hc9 := HCE.out
        rw [Lx.cert_go (by rw [HY.out]; exact hneg), HY.out, Int.toNat_natCast] at hc9
        have HC9 := Lib.hid hc9; clear hc9
        by_cases hu0 : 0 ≤ u
        · rw [Lx.go_hit (by rw [HY.out]; exact hneg) (by rw [HY.out, HU.out]; exact hu0), HY.out, HU.out, Int.toNat_natCast] at he
          have HE := Lib.hid he; clear he HG
          go_wp2
          go_still_tail 13, (by kernel_rfl)
          change wpList _ _ _ _ _ wr.drew
          have d1 : wr.drew.cell? ⟨w.heap.size, 256, none⟩ = _ := c1
          have d2 : wr.drew.cell? ⟨w.heap.size, s[k].toNat, none⟩ = _ := c2
          have d3 : wr.drew.cell? ⟨b, off + q, none⟩ = _ := c3
          have d4 : wr.drew.cell? ⟨bk, ok + m, none⟩ = _ := c4
          have d5 : wr.drew.cell? ⟨bt, ot + y, none⟩ = _ := g4
          have d6 : wr.drew.cell? ⟨w.heap.size, 257, none⟩ = _ := g5
          have HD := Lib.hid HST.out.drew
          generalize wr.drew = wd at *
          clear c1 c2 c3 c4 g4 g5
          go_wp2
          go_roundw
          case rel => exact ⟨k + 1, y, u, k + 1, by omega, by go_num, rfl, rfl, by go_num, by omega, HD.out, by simpa using HE, HC9⟩
          case measure => simp [intOf]; omega
        · rw [Lx.go_miss (by rw [HY.out]; exact hneg) (by rw [HY.out, HU.out]; exact hu0), HY.out, Int.toNat_natCast] at he
          have HE := Lib.hid he; clear he HG
          go_wp2
          go_still_tail 13, (by kernel_rfl)
          change wpList _ _ _ _ _ wr.drew
          have d1 : wr.drew.cell? ⟨w.heap.size, 256, none⟩ = _ := c1
          have d2 : wr.drew.cell? ⟨w.heap.size, s[k].toNat, none⟩ = _ := c2
          have d3 : wr.drew.cell? ⟨b, off + q, none⟩ = _ := c3
          have d4 : wr.drew.cell? ⟨bk, ok + m, none⟩ = _ := c4
          have d5 : wr.drew.cell? ⟨bt, ot + y, none⟩ = _ := g4
          have d6 : wr.drew.cell? ⟨w.heap.size, 257, none⟩ = _ := g5
          have HD := Lib.hid HST.out.drew
          generalize wr.drew = wd at *
          clear c1 c2 c3 c4 g4 g5
          go_wp2
          go_roundw
          case rel => exact ⟨k + 1, y, rr, tt, by omega, by go_num, rfl, rfl, rfl, by omega, HD.out, by simpa using HE, HC9⟩
          case measure => simp [intOf]; omega
    · have he := hgo.out; have hc9 := hce.out
      rw [bytes_end s k (by omega), Lx.go_nil] at he
      rw [bytes_end s k (by omega), Lx.cert_nil] at hc9
      subst he
      clear hgo hce
      have HC9 := Lib.hid hc9; clear hc9
      obtain ⟨bk, ok, capk, r1, r2, r3, r4⟩ := HRW.out q hq
      have c1 := hst.celAt C256.out
      have c3 := (hst.bel.cell (p := ⟨b, off + q, none⟩) hb).trans r1
      have R4 := Lib.hid r4; clear r4 r1
      generalize hro : next.getD q [] = row at *
      have HRO := Lib.hid hro; clear hro
      go_wp2
      clear c1 c3
      go_loopw [4, 5, 10, 55] (fun r t _ i ww => ∃ j : Nat, r = .int .i64 rr ∧ t = .int .i64 tt ∧ j ≤ row.length ∧ i = .int .i64 j ∧ St w ww [aCel w.heap.size 55 A] ∧ Hid (∀ x, x < j → row.getD x 0 < 0)) (fun _ _ _ i _ => row.length - (intOf i).toNat)
      case atStart => exact ⟨0, rfl, rfl, by omega, rfl, hst, Lib.hid (fun x hx => absurd hx (by omega))⟩
      case round =>
        clear hst
        obtain ⟨j, rfl, rfl, hj, rfl, hst, hall⟩ := hrel
        by_cases hjl : j < row.length
        · have e1 := (hst.bel.cell (p := ⟨bk, ok + j, none⟩) r2).trans (R4.out j hjl).1
          generalize hz : row.getD j 0 = z at *
          have HZ := Lib.hid hz; clear hz
          by_cases hz0 : 0 ≤ z
          · have hcf : C = false := by rw [← HC9.out]; exact Lx.dead_no (j := j) (by rw [HRO.out]; exact hjl) (by rw [HRO.out, HZ.out]; exact hz0)
            subst hcf
            go_wp2
            refine bodyPost_ret (v := .tuple #[.int .i64 rr, .int .i64 tt, .bool false]) (by simp [results, Try.results100, go_sem]) rfl ⟨rfl, hst.bel⟩
          · go_wp2
            go_roundw
            case rel => exact ⟨j + 1, rfl, rfl, by omega, by go_num, hst, Lib.hid (fun x hx => by
              rcases Nat.lt_succ_iff_lt_or_eq.1 hx with h | rfl
              · exact hall.out x h
              · rw [HZ.out]; omega)⟩
            case measure => simp [intOf]; omega
        · obtain rfl : j = row.length := by omega
          have hcf : C = true := by rw [← HC9.out]; exact Lx.dead_yes (by rw [HRO.out]; exact hall.out)
          subst hcf
          go_wp2
          refine bodyPost_ret (v := .tuple #[.int .i64 rr, .int .i64 tt, .bool true]) (by simp [results, Try.results100, go_sem]) rfl ⟨rfl, hst.bel⟩

set_option maxRecDepth 100000 in
set_option maxHeartbeats 4000000 in
theorem stuck_any (A : Array Value) (of : List Int) (next : List (List Int)) (tags : List Int) (vn vt : Value) (s : ByteArray) (hs : s.size ≤ 140737488355328) (w : World) (hp : PackedAt w A of next tags vn vt) (hg : Pkd.Good of next tags) :
    Calls Try.prog 102 #[.agg A, .string s] w fun e w' => e = .returned (.bool (Lx.cert of next s.data.toList 0)) ∧ Below w.heap.size w w' := by
  have c256 := hp.c256; have c257 := hp.c257; have hA := hp.size
  obtain ⟨b, off, cap, bt, ot, capt, rfl, rfl, hb, hbt, hstep, htag⟩ := packed_open hp hg
  have HRW := Lib.hid (packed_rows hp hg)
  have HS := Lib.hid hstep; have HT := Lib.hid htag
  have hn0 := hg.n0
  have HTL := Lib.hid hg.tl
  clear hstep htag hp hg
  have hst := (St.init w).alloc A 55
  have C256 := Lib.hid c256; have C257 := Lib.hid c257; clear c256 c257
  have HA := Lib.hid hA; clear hA
  generalize hC : Lx.cert of next s.data.toList 0 = C
  have HC : Hid (Lx.cert of next (s.data.toList.drop 0) 0 = C) := Lib.hid (by rw [← hC, List.drop_zero])
  clear hC
  go_enter Try.func102, Try.ntmps102
  go_wp2
  generalize w.alloc (.cells A 55) = W at hst ⊢
  go_loopw [5, 6] (fun now i wr => ∃ (k q : Nat), k ≤ s.size ∧ i = .int .i64 k ∧ now = .int .i64 q ∧ q < next.length ∧ St w wr [aCel w.heap.size 55 A] ∧ Hid (Lx.cert of next (s.data.toList.drop k) q = C)) (fun _ i _ => s.size - (intOf i).toNat)
  case atStart => exact ⟨0, 0, by omega, rfl, rfl, by omega, hst, HC⟩
  case round =>
    clear hst HC
    obtain ⟨k, q, hk, rfl, rfl, hq, hst, hce⟩ := hrel
    by_cases hlt : k < s.size
    · obtain ⟨m, bk, ok, n, capk, a1, a2, a3, a4, a5, a6, a7, a8⟩ := HS.out q hq s[k]
      have c1 := hst.celAt C256.out
      have c2 := hst.celAt a1
      have c3 := (hst.bel.cell (p := ⟨b, off + q, none⟩) hb).trans a5
      have c4 := (hst.bel.cell (p := ⟨bk, ok + m, none⟩) a4).trans a6
      have HST := Lib.hid hst
      have hc := s[k].toNat_lt
      have hc2 : (s[k].toNat : Int) < 256 := by omega
      have hc3 : (0 : Int) ≤ (s[k].toNat : Int) := by omega
      have hce2 := hce.out
      rw [bytes_drop s k hlt] at hce2
      generalize hy : Lx.nx of next q s[k] = y at *
      have HY := Lib.hid hy
      clear hst a1 a5 a6 hy hce
      have HCE := Lib.hid hce2; clear hce2
      by_cases hneg : y < 0
      · have hc9 := HCE.out
        rw [Lx.cert_stop (by rw [HY.out]; exact hneg)] at hc9
        subst hc9
        go_wp2
        go_still_tail 13, (by kernel_rfl)
        change wpList _ _ _ _ _ wr.drew
        have d1 : wr.drew.cell? ⟨w.heap.size, 256, none⟩ = _ := c1
        have d2 : wr.drew.cell? ⟨w.heap.size, s[k].toNat, none⟩ = _ := c2
        have d3 : wr.drew.cell? ⟨b, off + q, none⟩ = _ := c3
        have d4 : wr.drew.cell? ⟨bk, ok + m, none⟩ = _ := c4
        have HD := Lib.hid HST.out.drew
        generalize wr.drew = wd at *
        clear c1 c2 c3 c4
        go_wp2
        go_ret
        exact ⟨rfl, HD.out.bel⟩
      · obtain ⟨y, rfl⟩ := Int.eq_ofNat_of_zero_le (show 0 ≤ y by omega)
        have hc9 := HCE.out
        rw [Lx.cert_go (by rw [HY.out]; exact hneg), HY.out, Int.toNat_natCast] at hc9
        have HC9 := Lib.hid hc9; clear hc9
        go_wp2
        go_still_tail 13, (by kernel_rfl)
        change wpList _ _ _ _ _ wr.drew
        have d1 : wr.drew.cell? ⟨w.heap.size, 256, none⟩ = _ := c1
        have d2 : wr.drew.cell? ⟨w.heap.size, s[k].toNat, none⟩ = _ := c2
        have d3 : wr.drew.cell? ⟨b, off + q, none⟩ = _ := c3
        have d4 : wr.drew.cell? ⟨bk, ok + m, none⟩ = _ := c4
        have HD := Lib.hid HST.out.drew
        generalize wr.drew = wd at *
        clear c1 c2 c3 c4
        go_wp2
        go_roundw
        case rel => exact ⟨k + 1, y, by omega, by go_num, rfl, by omega, HD.out, HC9⟩
        case measure => simp [intOf]; omega
    · have hc9 := hce.out
      rw [bytes_end s k (by omega), Lx.cert_nil] at hc9
      clear hce
      have HC9 := Lib.hid hc9; clear hc9
      obtain ⟨bk, ok, capk, r1, r2, r3, r4⟩ := HRW.out q hq
      have c1 := hst.celAt C256.out
      have c3 := (hst.bel.cell (p := ⟨b, off + q, none⟩) hb).trans r1
      have R4 := Lib.hid r4; have R1 := Lib.hid r1; clear r4 r1
      generalize hro : next.getD q [] = row at *
      have HRO := Lib.hid hro; clear hro
      go_wp2
      clear c1 c3
      go_loopw [7] (fun i ww => ∃ j : Nat, j ≤ row.length ∧ i = .int .i64 j ∧ St w ww [aCel w.heap.size 55 A] ∧ Hid (∀ x, x < j → row.getD x 0 < 0)) (fun i _ => row.length - (intOf i).toNat)
      case atStart => exact ⟨0, by omega, rfl, hst, Lib.hid (fun x hx => absurd hx (by omega))⟩
      case round =>
        clear hst
        obtain ⟨j, hj, rfl, hst, hall⟩ := hrel
        have c1 := hst.celAt C256.out
        have c3 := (hst.bel.cell (p := ⟨b, off + q, none⟩) hb).trans R1.out
        by_cases hjl : j < row.length
        · have e1 := (hst.bel.cell (p := ⟨bk, ok + j, none⟩) r2).trans (R4.out j hjl).1
          generalize hz : row.getD j 0 = z at *
          have HZ := Lib.hid hz; clear hz
          by_cases hz0 : 0 ≤ z
          · have hcf : C = false := by rw [← HC9.out]; exact Lx.dead_no (j := j) (by rw [HRO.out]; exact hjl) (by rw [HRO.out, HZ.out]; exact hz0)
            subst hcf
            go_wp2
            go_ret
            exact ⟨rfl, hst.bel⟩
          · go_wp2
            go_roundw
            case rel => exact ⟨j + 1, by omega, by go_num, hst, Lib.hid (fun x hx => by
              rcases Nat.lt_succ_iff_lt_or_eq.1 hx with h | rfl
              · exact hall.out x h
              · rw [HZ.out]; omega)⟩
            case measure => simp [intOf]; omega
        · obtain rfl : j = row.length := by omega
          have hcf : C = true := by rw [← HC9.out]; exact Lx.dead_yes (by rw [HRO.out]; exact hall.out)
          subst hcf
          go_wp2
          go_ret
          exact ⟨rfl, hst.bel⟩
end Go.Proofs.Ytkgpipokfoadiaa
