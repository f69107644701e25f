/-
  A right packed automaton, read; one token of package lexer: what it computes.
-/
import Derived.Test.YtkgpipokfoadiaaPackedChk
import Derived.Test.YtkgpipokfoadiaaSepRd
import Derived.Test.YtkgpipokfoadiaaLexP
namespace Go.Proofs.Ytkgpipokfoadiaa
set_option linter.unusedVariables false
open Go.ChangeShapes Go.WideShapes Go.ChangeAt Go.RowKit

theorem packed_open {w : World} {A : Array Value} {of : List Int} {next : List (List Int)} {tags : List Int} {vn vt : Value} (hp : PackedAt w A of next tags vn vt) (hg : Pkd.Good of next tags) :
    ∃ b off cap bt ot capt, vn = .slice (some ⟨b, off, none⟩) next.length cap ∧ vt = .slice (some ⟨bt, ot, none⟩) tags.length capt ∧ b < w.heap.size ∧ bt < w.heap.size ∧
      (∀ q, q < next.length → ∀ c : UInt8, ∃ m bk ok n capk : Nat, A[c.toNat]? = some (.int .u8 (m : Int)) ∧ m < n ∧ n ≤ 256 ∧ bk < w.heap.size ∧ w.cell? ⟨b, off + q, none⟩ = some (.slice (some ⟨bk, ok, none⟩) n capk) ∧
        w.cell? ⟨bk, ok + m, none⟩ = some (.int .i64 (Lx.nx of next q c)) ∧ -1 ≤ Lx.nx of next q c ∧ Lx.nx of next q c < next.length) ∧
      (∀ q, q < next.length → w.cell? ⟨bt, ot + q, none⟩ = some (.int .i64 (Lx.tg tags q)) ∧ -1 ≤ Lx.tg tags q ∧ Lx.tg tags q ≤ 19) := by
  obtain ⟨ao, b, off, cap, rfl, n1, n2, n3, n4⟩ := slSls hp.nexts
  obtain ⟨at0, bt, ot, capt, rfl, t1, t2, t3, t4, t5⟩ := slInts hp.tagss
  have hn0 := hg.n0
  obtain ⟨rfl, hb⟩ := n3 (by omega)
  obtain ⟨rfl, hbt⟩ := t3 (by have := hg.tl; omega)
  refine ⟨b, off, cap, bt, ot, capt, rfl, rfl, hb, hbt, fun q hq c => ?_, fun q hq => ?_⟩
  · have hc := c.toNat_lt
    obtain ⟨vi, hv, hs⟩ := n4 q hq
    obtain ⟨ak, bk, ok, capk, rfl, r1, r2, r3, r4, r5⟩ := slInts hs
    obtain ⟨h1, h2⟩ := hg.rows q hq
    obtain ⟨m, hm⟩ := Int.eq_ofNat_of_zero_le (hp.of_wf c.toNat (by omega)).1
    have hmw := hg.cols c.toNat (by omega)
    have hl := h2.1
    have hml : m < (next.getD q []).length := by rw [hl]; omega
    obtain ⟨rfl, hbk⟩ := r3 (by omega)
    have hnx : Lx.nx of next q c = (next.getD q []).getD m 0 := by unfold Lx.nx; rw [hm, Int.toNat_natCast]
    have hr := h2.2 m (by rw [← hl]; exact hml)
    refine ⟨m, bk, ok, _, capk, by rw [← hm]; exact hp.of_at c.toNat (by omega), hml, by rw [hl]; exact hg.w1, hbk, hv, by rw [hnx]; exact r4 m hml, ?_, ?_⟩
    · rw [hnx]; exact hr.1
    · rw [hnx]; exact hr.2
  · have htg : Lx.tg tags q = tags.getD q 0 := by unfold Lx.tg; rw [Int.toNat_natCast]
    have h1 := (hg.rows q hq).1
    unfold Aut.tagGood at h1
    rw [htg]
    exact ⟨t4 q (by have := hg.tl; omega), h1⟩

theorem bytes_drop (s : ByteArray) (k : Nat) (h : k < s.size) : s.data.toList.drop k = s[k] :: s.data.toList.drop (k + 1) := by
  rw [List.drop_eq_getElem_cons (by simpa using h)]; rfl
theorem bytes_end (s : ByteArray) (k : Nat) (h : s.size ≤ k) : s.data.toList.drop k = [] := List.drop_of_length_le (by simpa using h)

namespace Lx
def oneV (x : Int × Int) (f : Int) : Value := if x.2 = 0 then .tuple #[.agg #[.int .i64 0, .int .i64 0, .int .i64 0], .bool false] else .tuple #[.agg #[.int .i64 x.1, .int .i64 f, .int .i64 (f + x.2)], .bool true]
theorem oneV_no {x : Int × Int} {f : Int} (h : x.2 = 0) : oneV x f = .tuple #[.agg #[.int .i64 0, .int .i64 0, .int .i64 0], .bool false] := by rw [oneV, if_pos h]
theorem oneV_yes {x : Int × Int} {f : Int} (h : x.2 ≠ 0) : oneV x f = .tuple #[.agg #[.int .i64 x.1, .int .i64 f, .int .i64 (f + x.2)], .bool true] := by rw [oneV, if_neg h]
end Lx

set_option maxRecDepth 100000 in
theorem one_any (A : Array Value) (of : List Int) (next : List (List Int)) (tags : List Int) (vn vt : Value) (s : ByteArray) (hs : s.size ≤ 140737488355328) (f : Nat) (hf : f ≤ s.size) (w : World) (hp : PackedAt w A of next tags vn vt) (hg : Pkd.Good of next tags) :
    Calls Try.prog 78 #[.agg A, .string s, .int .i64 f] w fun e w' => e = .returned (Lx.oneV (Lx.longest of next tags (s.data.toList.drop f)) f) ∧ Below w.heap.size w w' := by
  have c256 := hp.c256; have c257 := hp.c257; have hA := hp.size
  obtain ⟨b, off, cap, bt, ot, capt, rfl, rfl, hb, hbt, hstep, htag⟩ := packed_open hp hg
  have HS := Lib.hid hstep; have HT := Lib.hid htag
  have hn0 := hg.n0
  have HTL := Lib.hid hg.tl
  clear hstep htag hp hg
  have hst := (St.init w).alloc A 55
  have C256 := Lib.hid c256; have C257 := Lib.hid c257; clear c256 c257
  have HA := Lib.hid hA; clear hA
  generalize hX : Lx.longest of next tags (s.data.toList.drop f) = X
  have HX : Hid (Lx.go of next tags (s.data.toList.drop f) 0 f (0, 0) = Lx.sh f X) := Lib.hid (by
    have := Lx.go_sh (of := of) (next := next) (tags := tags) f (s.data.toList.drop f) 0 0 (by omega) (0, 0)
    rw [Int.zero_add] at this
    rw [← hX]; unfold Lx.longest; exact this)
  have HXI : Hid (0 ≤ X.2 ∧ X.2 + f ≤ s.size) := Lib.hid (by rw [← hX]; have := Lx.longest_in of next tags (s.data.toList.drop f); rw [List.length_drop] at this; simp only [Array.length_toList, ByteArray.size_data] at this; omega)
  clear hX
  go_enter Try.func78, Try.ntmps78
  go_wp2
  have hst3 := (hst.alloc #[.int .i64 0, .int .i64 0, .int .i64 0] 61).alloc #[.int .i64 0, .int .i64 f, .int .i64 0] 61
  simp only [World.size_alloc] at hst3
  clear hst
  generalize ((w.alloc (.cells A 55)).alloc (.cells #[.int .i64 0, .int .i64 0, .int .i64 0] 61)).alloc (.cells #[.int .i64 0, .int .i64 f, .int .i64 0] 61) = W at hst3 ⊢
  go_loopw [8, 10] (fun now i wr => ∃ (k q : Nat) (r t : Int), f ≤ k ∧ k ≤ s.size ∧ i = .int .i64 k ∧ now = .int .i64 q ∧ q < next.length ∧ St w wr [aCel (w.heap.size + 1 + 1) 61 #[.int .i64 r, .int .i64 f, .int .i64 t], aCel (w.heap.size + 1) 61 #[.int .i64 0, .int .i64 0, .int .i64 0], aCel w.heap.size 55 A] ∧ Hid (Lx.go of next tags (s.data.toList.drop k) q k (r, t) = Lx.sh f X)) (fun _ i _ => s.size - (intOf i).toNat)
  case atStart => exact ⟨f, 0, 0, 0, Nat.le_refl _, hf, rfl, rfl, by omega, hst3, HX⟩
  case round =>
    clear hst3 HX
    obtain ⟨k, q, r, t, hfk, hk, rfl, rfl, hq, hst, hgo⟩ := hrel
    by_cases hlt : k < s.size
    · obtain ⟨m, bk, ok, n, capk, a1, a2, a3, a4, a5, a6, a7, a8⟩ := HS.out q hq s[k]
      have c1 := hst.get3.celAt C256.out
      have c2 := hst.get3.celAt a1
      have c3 := (hst.bel.cell (p := ⟨b, off + q, none⟩) hb).trans a5
      have c4 := (hst.bel.cell (p := ⟨bk, ok + m, none⟩) a4).trans a6
      have hgo2 := hgo.out
      rw [bytes_drop s k hlt] at hgo2
      have HST := Lib.hid hst
      have hc := s[k].toNat_lt
      have hc2 : (s[k].toNat : Int) < 256 := by omega
      have hc3 : (0 : Int) ≤ (s[k].toNat : Int) := by omega
      generalize hy : Lx.nx of next q s[k] = y at *
      have HY := Lib.hid hy
      clear hst a1 a5 a6 hy hgo
      have HG := Lib.hid hgo2; clear hgo2
      by_cases hneg : y < 0
      · have he := HG.out
        rw [Lx.go_stop (by rw [HY.out]; exact hneg)] at he
        go_wp2
        go_still_tail 13, (by kernel_rfl)
        change wpList _ _ _ _ _ wr.drew
        have d1 : wr.drew.cell? ⟨w.heap.size, 256, none⟩ = _ := c1
        have d2 : wr.drew.cell? ⟨w.heap.size, s[k].toNat, none⟩ = _ := c2
        have d3 : wr.drew.cell? ⟨b, off + q, none⟩ = _ := c3
        have d4 : wr.drew.cell? ⟨bk, ok + m, none⟩ = _ := c4
        have HD := Lib.hid HST.out.drew
        generalize wr.drew = wd at *
        clear c1 c2 c3 c4
        by_cases hx : X.2 = 0
        · have HV := Lib.hid (Lx.oneV_no (f := f) hx)
          obtain ⟨rfl, rfl⟩ : r = X.1 ∧ t = 0 := by simpa [Lx.sh, hx] using he
          obtain ⟨e0, e1, e2, ef0, ef1, ef2⟩ := HD.out.cel3
          obtain ⟨r0, r1, r2, rf0, rf1, rf2⟩ := HD.out.get2.cel3
          have hst9 := ((HD.out.get2.setCel 0 (.int .i64 0)).setCel 1 (.int .i64 0)).setCel 2 (.int .i64 0)
          clear he hx
          go_wp2
          have k0 := hst9.celAt (i := 0) (v := .int .i64 0) rfl
          have k1 := hst9.celAt (i := 1) (v := .int .i64 0) rfl
          have k2 := hst9.celAt (i := 2) (v := .int .i64 0) rfl
          exact bodyPost_ret (v := .tuple #[.agg #[.int .i64 0, .int .i64 0, .int .i64 0], .bool false]) (by simp [results, Try.results78, go_sem, k0, k1, k2]) rfl ⟨by rw [HV.out], hst9.bel⟩
        · have HV := Lib.hid (Lx.oneV_yes (f := f) hx)
          obtain ⟨rfl, rfl⟩ : r = X.1 ∧ t = X.2 + f := by simpa [Lx.sh, hx] using he
          have hz : ((X.2 + f : Int) == 0) = false := by rw [beq_eq_false_iff_ne]; have := HXI.out; omega
          have hx0 := HXI.out.1
          have hx1 := HXI.out.2
          obtain ⟨e0, e1, e2, ef0, ef1, ef2⟩ := HD.out.cel3
          obtain ⟨r0, r1, r2, rf0, rf1, rf2⟩ := HD.out.get2.cel3
          have hst9 := ((HD.out.get2.setCel 0 (.int .i64 X.1)).setCel 1 (.int .i64 f)).setCel 2 (.int .i64 (X.2 + f))
          clear he hx
          go_wp2
          have k0 := hst9.celAt (i := 0) (v := .int .i64 X.1) rfl
          have k1 := hst9.celAt (i := 1) (v := .int .i64 f) rfl
          have k2 := hst9.celAt (i := 2) (v := .int .i64 (X.2 + f)) rfl
          exact bodyPost_ret (v := .tuple #[.agg #[.int .i64 X.1, .int .i64 f, .int .i64 (X.2 + f)], .bool true]) (by simp [results, Try.results78, go_sem, k0, k1, k2]) rfl ⟨by rw [HV.out, Int.add_comm], hst9.bel⟩
      · obtain ⟨y, rfl⟩ := Int.eq_ofNat_of_zero_le (show 0 ≤ y by omega)
        obtain ⟨g1, g2, g3⟩ := HT.out y (by omega)
        have g4 := (HST.out.bel.cell (p := ⟨bt, ot + y, none⟩) hbt).trans g1
        have g5 := HST.out.get3.celAt C257.out
        generalize hu : Lx.tg tags y = u at *
        have HU := Lib.hid hu
        clear g1 hu
        have he := HG.out
        have hyt : y < tags.length := by have := HTL.out; omega
        by_cases hu0 : 0 ≤ u
        · rw [Lx.go_hit (by rw [HY.out]; exact hneg) (by rw [HY.out, HU.out]; exact hu0), HY.out, HU.out, Int.toNat_natCast] at he
          have HE := Lib.hid he; clear he HG
          go_wp2
          go_still_tail 13, (by kernel_rfl)
          change wpList _ _ _ _ _ wr.drew
          have d1 : wr.drew.cell? ⟨w.heap.size, 256, none⟩ = _ := c1
          have d2 : wr.drew.cell? ⟨w.heap.size, s[k].toNat, none⟩ = _ := c2
          have d3 : wr.drew.cell? ⟨b, off + q, none⟩ = _ := c3
          have d4 : wr.drew.cell? ⟨bk, ok + m, none⟩ = _ := c4
          have HD := Lib.hid HST.out.drew
          have d5 : wr.drew.cell? ⟨bt, ot + y, none⟩ = _ := g4
          have d6 : wr.drew.cell? ⟨w.heap.size, 257, none⟩ = _ := g5
          obtain ⟨e0, e1, e2, ef0, ef1, ef2⟩ := HST.out.drew.cel3
          generalize wr.drew = wd at *
          clear c1 c2 c3 c4 g4 g5
          go_wp2
          go_roundw
          case rel => exact ⟨k + 1, y, u, k + 1, by omega, by omega, by go_num, rfl, by omega, (HD.out.setCel 0 _).setCel 2 _, by simpa using HE⟩
          case measure => simp [intOf]; omega
        · rw [Lx.go_miss (by rw [HY.out]; exact hneg) (by rw [HY.out, HU.out]; exact hu0), HY.out, Int.toNat_natCast] at he
          have HE := Lib.hid he; clear he HG
          go_wp2
          go_still_tail 13, (by kernel_rfl)
          change wpList _ _ _ _ _ wr.drew
          have d1 : wr.drew.cell? ⟨w.heap.size, 256, none⟩ = _ := c1
          have d2 : wr.drew.cell? ⟨w.heap.size, s[k].toNat, none⟩ = _ := c2
          have d3 : wr.drew.cell? ⟨b, off + q, none⟩ = _ := c3
          have d4 : wr.drew.cell? ⟨bk, ok + m, none⟩ = _ := c4
          have HD := Lib.hid HST.out.drew
          have d5 : wr.drew.cell? ⟨bt, ot + y, none⟩ = _ := g4
          have d6 : wr.drew.cell? ⟨w.heap.size, 257, none⟩ = _ := g5
          generalize wr.drew = wd at *
          clear c1 c2 c3 c4 g4 g5
          go_wp2
          go_roundw
          case rel => exact ⟨k + 1, y, r, t, by omega, by omega, by go_num, rfl, by omega, HD.out, by simpa using HE⟩
          case measure => simp [intOf]; omega
    · have he := hgo.out
      rw [bytes_end s k (by omega), Lx.go_nil] at he
      have HST0 := Lib.hid hst
      clear hgo hst
      by_cases hx : X.2 = 0
      · have HV := Lib.hid (Lx.oneV_no (f := f) hx)
        obtain ⟨rfl, rfl⟩ : r = X.1 ∧ t = 0 := by simpa [Lx.sh, hx] using he
        obtain ⟨e0, e1, e2, ef0, ef1, ef2⟩ := HST0.out.cel3
        obtain ⟨r0, r1, r2, rf0, rf1, rf2⟩ := HST0.out.get2.cel3
        have hst9 := ((HST0.out.get2.setCel 0 (.int .i64 0)).setCel 1 (.int .i64 0)).setCel 2 (.int .i64 0)
        clear he hx
        go_wp2
        have k0 := hst9.celAt (i := 0) (v := .int .i64 0) rfl
        have k1 := hst9.celAt (i := 1) (v := .int .i64 0) rfl
        have k2 := hst9.celAt (i := 2) (v := .int .i64 0) rfl
        exact bodyPost_ret (v := .tuple #[.agg #[.int .i64 0, .int .i64 0, .int .i64 0], .bool false]) (by simp [results, Try.results78, go_sem, k0, k1, k2]) rfl ⟨by rw [HV.out], hst9.bel⟩
      · have HV := Lib.hid (Lx.oneV_yes (f := f) hx)
        obtain ⟨rfl, rfl⟩ : r = X.1 ∧ t = X.2 + f := by simpa [Lx.sh, hx] using he
        have hz : ((X.2 + f : Int) == 0) = false := by rw [beq_eq_false_iff_ne]; have := HXI.out; omega
        have hx0 := HXI.out.1
        have hx1 := HXI.out.2
        obtain ⟨e0, e1, e2, ef0, ef1, ef2⟩ := HST0.out.cel3
        obtain ⟨r0, r1, r2, rf0, rf1, rf2⟩ := HST0.out.get2.cel3
        have hst9 := ((HST0.out.get2.setCel 0 (.int .i64 X.1)).setCel 1 (.int .i64 f)).setCel 2 (.int .i64 (X.2 + f))
        clear he hx
        go_wp2
        have k0 := hst9.celAt (i := 0) (v := .int .i64 X.1) rfl
        have k1 := hst9.celAt (i := 1) (v := .int .i64 f) rfl
        have k2 := hst9.celAt (i := 2) (v := .int .i64 (X.2 + f)) rfl
        exact bodyPost_ret (v := .tuple #[.agg #[.int .i64 X.1, .int .i64 f, .int .i64 (X.2 + f)], .bool true]) (by simp [results, Try.results78, go_sem, k0, k1, k2]) rfl ⟨by rw [HV.out, Int.add_comm], hst9.bel⟩
end Go.Proofs.Ytkgpipokfoadiaa
