/-
  Parts of the proof of WholeSays, put together: WsWhole RMade WholeSaysW. (Helper texts.)
-/
import Derived.Test.YtahoapgmiecphaaG4
import Derived.Test.YtahoapgmiecphaaG5

/-
  Whole of the reference: what it tells of a text.
-/
namespace Go.Proofs.Ytahoapgmiecphaa
set_option linter.unusedVariables false
set_option linter.unusedSimpArgs false
open Go.ChangeShapes Go.WideShapes Go.ChangeAt Go.RowKit

namespace Ws
theorem resT1 {fn : Func} {p : Tmp} (h : fn.results = #[.cell p 69]) (tmps : Array Value) (w : World) (g : Nat) {v0 v1 v2 : Value} (hp : tmps.getD p undef = .pointer (some ⟨g, 0, none⟩)) (c0 : w.cell? ⟨g, 0, none⟩ = some v0) (c1 : w.cell? ⟨g, 1, none⟩ = some v1) (c2 : w.cell? ⟨g, 2, none⟩ = some v2) :
    (results fn tmps).run Try.prog w = .ok (.agg #[v0, v1, v2]) w := by
  have hp2 : tmps[p]?.getD undef = .pointer (some ⟨g, 0, none⟩) := by simpa using hp
  simp [results, h, hp2, Sem.run_bind, Result.andThen, go_sem, c0, c1, c2]
/-- What Whole leaves. -/
def RetWhole (x : List Ev × Int × Int) (w : World) (e : Ending) (w' : World) : Prop := ∃ v, e = .returned (.agg #[v, .int .i64 x.2.1, .int .i64 x.2.2]) ∧ St w w' [aOwn 76 2 v (x.1.map pairV)]
end Ws

set_option maxRecDepth 100000 in
set_option maxHeartbeats 4000000 in
theorem wsWholeC (A : Array Value) (m : Mk.Md) (v0 : Value) (Pc : Array Value) (vn vt vp vr va vg : Value) (s : ByteArray) (w : World) (hm : MadeAt (fun b => b < w.heap.size) w A m v0 Pc vn vt vp vr va vg) (he0 : Mk.err m = 0) (hmode : m.2.2.2.1 = 1) (he : Rw.all m.2.2.1.1 m.2.2.1.2.1 m.2.2.1.2.2 m.2.2.2.2.1 = 0) (hs : s.size ≤ 2000) :
    Calls Try.prog 27 #[.agg A, .string s] w (Ws.RetWhole (Ws.whole (Ws.climber m.2.2.1.2.2 m.2.2.2.2.1 m.2.2.1.1.toNat) m.1 (Lx.toks m.2.1.1 m.2.1.2.1 m.2.1.2.2 s.size s.data.toList 0 []) s.size ([(false, 0, 2, 0)], 0)) w) := by
  obtain ⟨z1, z2, z3, z4, z5, z6, -⟩ := Ws.mk_zero he0
  have hgr := Gr.err_zero z2
  have htt : ((m.2.2.1.1.toNat : Nat) : Int) = m.2.2.1.1 := by omega
  have ht0 : 0 ≤ m.2.2.1.1 := hgr.1
  obtain ⟨hg, h200⟩ : Pkd.Good m.2.1.1 m.2.1.2.1 m.2.1.2.2 ∧ m.2.1.2.1.length ≤ 200 := (Pkd.err_cases m.2.1.1 m.2.1.2.1 m.2.1.2.2).elim (fun h => by omega) (fun h => ⟨h.2.2, h.2.1⟩)
  have hst := ((St.init w).alloc A 66).alloc #[.slice none 0 0, .int .i64 0, .int .i64 0] 69
  simp only [World.size_alloc] at hst
  have hsz : (Try.prog.info? 66).map (fun x => x.size) = some A.size := by rw [hm.size]; kernel_rfl
  have hpz : (Try.prog.info? 61).map (fun x => x.size) = some Pc.toList.length := by rw [Array.length_toList, hm.psize]; kernel_rfl
  have HS := Lib.hid hsz; have HPZ := Lib.hid hpz
  have HA := Lib.hid (hst.heapAt 1 rfl)
  have HPK : Hid (∀ (W : World) (g : Nat), W.heap[g]? = some (.cells A 66 (0, 0)) → W.rangeAt g 1 Pc.toList) := Lib.hid (fun W g h => (hm.box h).pk)
  have HW := Lib.hid (fun W (hW : Below w.heap.size w W) => wide_ok Pc m.2.1.1 m.2.1.2.1 m.2.1.2.2 vn vt W (hm.packed.below hW) h200 hg)
  have HT := Lib.hid (fun v W h => tokens_any v m.2.1.1 m.2.1.2.1 m.2.1.2.2 s (by omega) W h hg h200)
  have HDF : Hid (∀ (v0 : Value) (W : World) (B : Nat), Own W B 142 256 v0 ((Wd.rows m.2.1.1 m.2.1.2.1 m.2.1.2.1.length).map Wd.rowV) → Below w.heap.size w W → DfaAt W (.agg #[v0, vt]) (Wd.rows m.2.1.1 m.2.1.2.1 m.2.1.2.1.length) m.2.1.2.2) :=
    Lib.hid (fun v0 W B ho hb => ⟨v0, _, rfl, Wd.sl ho (Wd.rows_wf m.2.1.1 m.2.1.2.1 m.2.1.2.2 hg h200 (fun c hc => (hm.packed.of_wf c hc).1)), hm.packed.tagss.call hb (fun _ _ h => h)⟩)
  have HBEG := Lib.hid (fun W => wsRBegun A hm.size W)
  have HPUSH := Lib.hid (fun g (Ur : Array Value) (hU : Ur.size = 4) => wsRefCPush w A Ur m v0 Pc vn vt vp vr va vg hm hmode he m.2.2.1.1.toNat htt g hU)
  have HEND := fun g (Ur : Array Value) (hU : Ur.size = 4) => wsRefCEnd w A Ur m v0 Pc vn vt vp vr va vg hm hmode he m.2.2.1.1.toNat htt g hU
  rw [htt] at HEND
  replace HEND := Lib.hid HEND
  have htk := Ws.toks_ok (of := m.2.1.1) (next := m.2.1.2.1) (tags := m.2.1.2.2) z3 z6 s.size s.size s.data.toList 0 [] (by omega) (by simp) (by simp) (fun x hx => by cases hx)
  have HOK : Hid (∀ (j : Nat) (st : (List Cl.T × Int)) (c : Nat), (Ws.okC m.2.2.1.1 m.2.2.1.2.1 m.2.2.1.2.2.length) j st → j ≤ 5000 → (c : Int) ≤ m.2.2.1.1 → (((Ws.climber m.2.2.1.2.2 m.2.2.2.2.1 m.2.2.1.1.toNat).push st c).1 = 0 → (Ws.okC m.2.2.1.1 m.2.2.1.2.1 m.2.2.1.2.2.length) (j + 1) ((Ws.climber m.2.2.1.2.2 m.2.2.2.2.1 m.2.2.1.1.toNat).push st c).2.1) ∧ ((Ws.climber m.2.2.1.2.2 m.2.2.2.2.1 m.2.2.1.1.toNat).push st c).2.2.length ≤ 2001 ∧ ((Ws.climber m.2.2.1.2.2 m.2.2.2.2.1 m.2.2.1.1.toNat).fin st).2.length ≤ 2001) :=
    Lib.hid (fun j st c hk hj hc => ⟨fun h0 => Ws.okC_push hk he hc h0, Ws.okC_len hk⟩)
  have HBG : Hid ((Ws.okC m.2.2.1.1 m.2.2.1.2.1 m.2.2.1.2.2.length) 0 ([(false, 0, 2, 0)], 0)) := Lib.hid (Ws.okC_begin he)
  obtain ⟨ao, bo, oo, co, hv0, -, o3, o4⟩ := Enc.sl1 (En := Enc.int .i64) (Value.int .i64) (fun _ _ _ h => h.1) rfl 0 hm.ofs
  subst hv0
  have O3 : Hid (∀ (q : Int), 0 ≤ q → q < m.1.length → ao = some ⟨bo, oo, none⟩ ∧ (∀ W, Below w.heap.size w W → W.cell? ⟨bo, oo + q.toNat, none⟩ = some (.int .i64 (m.1.getD q.toNat 0))) ∧ m.1.getD q.toNat 0 < m.2.2.1.1 ∧ -1 ≤ m.1.getD q.toNat 0) :=
    Lib.hid (fun q h0 h1 => ⟨(o3 (by omega)).1, fun W hW => bkeep hW (o4 q.toNat (by omega)).1, (z5 q.toNat (by omega)).2, (z5 q.toNat (by omega)).1⟩)
  have HA0 : Hid (∀ (W : World) (g : Nat), W.heap[g]? = some (.cells A 66 (0, 0)) → W.cell? ⟨g, 0, none⟩ = some (.slice ao m.1.length co)) := Lib.hid (fun W g h => (hm.box h).c0)
  have HA9 : Hid (∀ (W : World) (g : Nat), W.heap[g]? = some (.cells A 66 (0, 0)) → W.cell? ⟨g, 259, none⟩ = some (.int .i64 m.2.2.1.1)) := Lib.hid (fun W g h => (hm.box h).c259)
  generalize hP : (Ws.climber m.2.2.1.2.2 m.2.2.2.2.1 m.2.2.1.1.toNat) = P at *
  generalize hok : (Ws.okC m.2.2.1.1 m.2.2.1.2.1 m.2.2.1.2.2.length) = ok at *
  generalize hX : (Lx.toks m.2.1.1 m.2.1.2.1 m.2.1.2.2 s.size s.data.toList 0 []) = X at *
  generalize m.1 = of at *
  generalize m.2.2.1.1 = t at *
  generalize Wd.rows m.2.1.1 m.2.1.2.1 m.2.1.2.1.length = rws at *
  generalize m.2.1.2.2 = tags at *
  have HTK := Lib.hid htk
  obtain ⟨L, k⟩ := X
  simp only at HTK
  have hsI : (s.size : Int) ≤ 2000 := by omega
  have HLL := Lib.hid (show L.length ≤ 2000 by have := HTK.out.2; omega)
  have HST := Lib.hid hst
  clear hst hm he he0 hmode hsz hpz z1 z2 z3 z4 z5 z6 hgr htt htk o3 o4 hP hok hX hs hg h200
  go_enter Try.func27, Try.ntmps27
  go_wp2_with (refine wpList_load_mid rfl 61 (.tmp 15) rfl w.heap.size 1 rfl Pc.toList _ (HPK.out _ _ HA.out) Try.underlying61 rfl HPZ.out ?_)
  go_at_call 82
  refine (HW.out _ HST.out.bel).mono ?_
  rintro e1 w1 ⟨vr0, rfl, ho1, hb1⟩
  have HST1 := Lib.hid (HST.out.pushOwn hb1 ho1)
  have HDF1 := Lib.hid (HDF.out vr0 w1 _ ho1 HST1.out.bel)
  clear ho1 hb1
  go_wp2_with (fail)
  go_at_call 81
  refine (HT.out _ _ HDF1.out).mono ?_
  rintro e2 w2 ⟨vt2, rfl, ho2, hb2⟩
  have HST2 := Lib.hid ((HST1.out.pushOwn hb2 ho2).pick (ρ := aOwn 172 3 vt2 (L.map tokV) :: aCel (w.heap.size + 1) 69 #[.slice none 0 0, .int .i64 0, .int .i64 0] :: aCel w.heap.size 66 A :: []) [0, 2, 3] 4 rfl rfl)
  have HA2 := Lib.hid (HST2.out.heapAt 2 rfl)
  obtain ⟨at2, ct2, hvt⟩ := Ws.showsLen (HST2.out.ownAt 0 rfl)
  rw [List.length_map] at hvt
  subst hvt
  clear ho2 hb2
  go_wp2_with (refine wpList_load_row rfl 66 (.tmp 2) rfl w.heap.size rfl 66 A (0, 0) _ HA2.out Try.underlying66 rfl HS.out ?_)
  go_at_call 83
  refine (HBEG.out _).mono ?_
  rintro e3 w3 ⟨g, vc, vs, rfl, hr3⟩
  have hx3 := ((HST2.out.joined hr3).pick (ρ := aCel g 240 (A.toList ++ ([vc, .int .i64 0, .int .i64 0, .bool false] ++ [vs, .int .i64 0, .int .i64 0, .bool false])).toArray :: aOwn 238 4 vc ([((false, 0, 2, 0) : Cl.T)].map todoV) :: aOwn 172 3 (.slice at2 L.length ct2) (L.map tokV) :: aCel (w.heap.size + 1) 69 #[.slice none 0 0, .int .i64 0, .int .i64 0] :: aCel w.heap.size 66 A :: []) ([0, 1] ++ [3, 4, 5]) 6 rfl rfl)
  have hfour : (A.toList ++ ([vc, .int .i64 0, .int .i64 0, .bool false] ++ [vs, .int .i64 0, .int .i64 0, .bool false])).toArray = Ws.four A #[vs, .int .i64 0, .int .i64 0, .bool false] vc 0 0 false := by simp [Ws.four]
  rw [hfour] at hx3
  have HIN0 : Hid (Ws.InC g 240 A #[vs, .int .i64 0, .int .i64 0, .bool false] ([(false, 0, 2, 0)], 0) (aPair (aCel g 240 (Ws.four A #[vs, .int .i64 0, .int .i64 0, .bool false] vc 0 0 false)) (aOwn 238 4 vc ([((false, 0, 2, 0) : Cl.T)].map todoV)))) := Lib.hid ⟨vc, rfl⟩
  have HST3 := Lib.hid ((show St w w3 ((aPair (aCel g 240 (Ws.four A #[vs, .int .i64 0, .int .i64 0, .bool false] vc 0 0 false)) (aOwn 238 4 vc ([((false, 0, 2, 0) : Cl.T)].map todoV))) :: aOwn 172 3 (.slice at2 L.length ct2) (L.map tokV) :: aCel (w.heap.size + 1) 69 #[.slice none 0 0, .int .i64 0, .int .i64 0] :: aCel w.heap.size 66 A :: []) from hx3.pair).alloc #[.slice none 0 0, .int .i64 0, .int .i64 0] 69)
  generalize hX0 : (aPair (aCel g 240 (Ws.four A #[vs, .int .i64 0, .int .i64 0, .bool false] vc 0 0 false)) (aOwn 238 4 vc ([((false, 0, 2, 0) : Cl.T)].map todoV))) = X0 at HIN0 HST3
  have hpush := HPUSH.out g #[vs, .int .i64 0, .int .i64 0, .bool false] rfl
  have hend := HEND.out g #[vs, .int .i64 0, .int .i64 0, .bool false] rfl
  generalize #[vs, .int .i64 0, .int .i64 0, .bool false] = U at hpush hend HIN0 hfour hX0
  have HPUSH2 := Lib.hid hpush
  have HEND2 := Lib.hid hend
  generalize hgo : w3.heap.size = go at HST3
  clear hr3 hx3 hfour hX0 hpush hend
  go_wp2_with (fail)
  go_loopg [9] L.length (fun gk v40 wr => ∃ (i j : Nat) (st : (List Cl.T × Int)) (out : List Ws.Ev) (X : Asrt) (a : Option Addr) (n c : Nat), v40 = .int .i64 (i : Int) ∧ i ≤ L.length ∧ gk = L.length - i ∧ Hid (Ws.run P of (L.drop i) st out = Ws.run P of L ([(false, 0, 2, 0)], 0) [] ∧ ok j st ∧ j ≤ i ∧ Ws.InC g 240 A U st X ∧ out.length ≤ 2001 * i) ∧ St w wr (X :: aCel go 69 #[.slice a n c, .int .i64 0, .int .i64 0] :: aOwn 76 2 (.slice a n c) (out.map pairV) :: aOwn 172 3 (.slice at2 L.length ct2) (L.map tokV) :: aCel (w.heap.size + 1) 69 #[.slice none 0 0, .int .i64 0, .int .i64 0] :: aCel w.heap.size 66 A :: []))
  case atStart =>
    refine ⟨0, 0, ([(false, 0, 2, 0)], 0), [], X0, none, 0, 0, rfl, Nat.zero_le _, rfl, Lib.hid ⟨by rw [List.drop_zero], HBG.out, Nat.le_refl _, HIN0.out, by simp⟩, ?_⟩
    exact (HST3.out.nilOwn 76 2).pick [2, 1, 0, 3, 4, 5] 6 rfl rfl
  case round =>
    clear HST HST1 HST2 HST3 HA HA2 HIN0 HBEG HPK HBG HW HT HDF HDF1 HPUSH HEND
    obtain ⟨i, j, st, out, X, a, n, c, rfl, hi, hgk, HL, hst⟩ := hrel
    have HGK := Lib.hid hgk
    have HSL := Lib.hid (fun q => hst.drewN q)
    have HS0 := Lib.hid hst
    clear hst hgk
    have hLL := HLL.out
    have x0lt : w.heap.size < wr.heap.size := ((HS0.out.nth 5 rfl).lo _ (.head _) _ (.head _)).2
    by_cases hlt : i < L.length
    · have hltI : (i : Int) < (L.length : Int) := by omega
      obtain ⟨gt, rfl⟩ := (HS0.out.ownAt 3 rfl).addr (by rw [List.length_map]; omega)
      have TK := Lib.hid (fun (W : World) (μ : List Asrt) (h : St w W (aOwn 172 3 (.slice (some ⟨gt, 0, none⟩) L.length ct2) (L.map tokV) :: μ)) (q : Nat) (hq : q < 3) (v : Value) (hv : (tokV (L.getD i (0, 0, 0))).cells.toList[q]? = some v) => h.cellsN (f := tokV) (fun _ => rfl) i hlt (0, 0, 0) q hq v hv)
      have t0 : wr.cell? ⟨gt, i * 3, none⟩ = _ := TK.out _ _ (HS0.out.nth 3 rfl) 0 (by decide) _ rfl
      have hmem := HTK.out.1 (L.getD i (0, 0, 0)) (by rw [List.getD_eq_getElem?_getD, List.getElem?_eq_getElem hlt]; exact List.getElem_mem _)
      obtain ⟨q0, q1, q2, q3⟩ := hmem
      obtain ⟨rfl, hcell, hc1, hc2⟩ := O3.out _ q0 q1
      have HRUN := Lib.hid (And.intro (fun st out => Ws.run_skip (P := P) (of := of) (st := st) (out := out) hlt) (And.intro (fun st out => Ws.run_bad (P := P) (of := of) (st := st) (out := out) hlt) (fun st out => Ws.run_go (P := P) (of := of) (st := st) (out := out) hlt)))
      have ofc := hcell wr HS0.out.bel
      have a0 := HA0.out wr w.heap.size (HS0.out.heapAt 5 rfl)
      have HCELL := Lib.hid hcell
      generalize L.getD i (0, 0, 0) = kk at *
      obtain ⟨r, f, to3⟩ := kk
      simp only [show ∀ (a b c : Int), (tokV (a, b, c)).cells.toList = [.int .i64 a, .int .i64 b, .int .i64 c] from fun _ _ _ => rfl] at TK
      simp only at t0 q0 q1 q2 q3 hc1 hc2 ofc HRUN HCELL
      obtain ⟨r, rfl⟩ := Int.eq_ofNat_of_zero_le q0
      rw [Int.toNat_natCast] at ofc hc1 hc2 HRUN HCELL
      generalize hcc : of.getD r 0 = cc at *
      have blt := World.block_lt_of_cell? _ _ ofc
      have glt := World.block_lt_of_cell? _ _ t0
      have hrlt : r < of.length := by omega
      simp only at blt glt
      clear hcell hcc
      by_cases hneg : cc < 0
      · have hd : decide (cc < 0) = true := decide_eq_true hneg
        go_wp2_with (fail)
        go_quiet (fail)
        have HST4 := Lib.hid (HSL.out nq)
        clear ofc a0 t0
        generalize World.drewN _ _ = w4 at HST4 ⊢
        go_wp2_with (fail)
        go_roundg (L.length - (i + 1))
        case measure => have := HGK.out; omega
        case rel => exact ⟨i + 1, j, st, out, X, a, n, c, by go_num, by omega, rfl, Lib.hid ⟨(HRUN.out.1 st out hneg).symm.trans HL.out.1, HL.out.2.1, Nat.le_succ_of_le HL.out.2.2.1, HL.out.2.2.2.1, by have := HL.out.2.2.2.2; omega⟩, HST4.out⟩
      · have hd : decide (cc < 0) = false := decide_eq_false hneg
        obtain ⟨c2, rfl⟩ := Int.eq_ofNat_of_zero_le (show 0 ≤ cc by omega)
        go_wp2_with (fail)
        go_quiet (fail)
        have HSTX := Lib.hid (HSL.out nq)
        clear ofc a0 t0 hd
        generalize World.drewN _ _ = w4 at HSTX ⊢
        have HNEG := Lib.hid hneg
        rw [Int.toNat_natCast] at HRUN
        have hj5 : j ≤ 5000 := by have := HL.out.2.2.1; have := HLL.out; omega
        have HOKJ := Lib.hid (HOK.out j st c2 HL.out.2.1 hj5 (by omega))
        have y0 := HA0.out w4 w.heap.size (HSTX.out.heapAt 5 rfl)
        have y1 : w4.cell? ⟨gt, i * 3, none⟩ = _ := TK.out _ _ (HSTX.out.nth 3 rfl) 0 (by decide) _ rfl
        have y2 := HCELL.out w4 HSTX.out.bel
        have HC := HPUSH2.out w w4.drew _ j st X c2 HSTX.out.bel.drew (Nat.le_refl _) HL.out.2.2.2.1 HL.out.2.1 hj5 (by omega) HSTX.out.drew
        replace HC := Lib.hid HC
        generalize hpr : P.push st c2 = pr at HC HRUN HOKJ
        obtain ⟨er, st2, out2⟩ := pr
        simp only at HC
        clear HS0 HSL x0lt glt blt
        go_wp2_with (fail)
        refine wp_region_held_drew (S := (fun w' => w'.cell? ⟨w.heap.size, 0, none⟩ = some (.slice (some ⟨bo, oo, none⟩) of.length co) ∧ w'.cell? ⟨gt, i * 3, none⟩ = some (.int .i64 (r : Int)) ∧ w'.cell? ⟨bo, oo + r, none⟩ = some (.int .i64 (c2 : Int)))) (by kernel_rfl) ?_ (fun hHeld => ?_)
        · (try dsimp only); (first | exact ⟨y0, y1, y2⟩ | exact ⟨z0, z1, z2⟩)

        refine wpAnyH_take (i := 0) (v := ?_) rfl (by kernel_rfl) (by kernel_rfl) (by kernel_rfl) (fun _ _ _ h => h) (Or.inl ⟨by rfl, ?_⟩) (by assumption) ?_
        rotate_left; focus (intro w hSw; (try dsimp only at hSw); go_simp; try (with_reducible rfl); done)
        try simp only [List.getElem_toArray, List.getElem_cons_zero, List.getElem_cons_succ, Act.put, List.setIfInBounds_toArray, List.set_cons_zero, List.set_cons_succ]
        refine wpAnyH_take (i := 1) (v := ?_) rfl (by kernel_rfl) (by kernel_rfl) (by kernel_rfl) (fun _ _ _ h => h) (Or.inl ⟨by rfl, ?_⟩) (by assumption) ?_
        rotate_left; focus (intro w hSw; (try dsimp only at hSw); go_simp; try (with_reducible rfl); done)
        try simp only [List.getElem_toArray, List.getElem_cons_zero, List.getElem_cons_succ, Act.put, List.setIfInBounds_toArray, List.set_cons_zero, List.set_cons_succ]
        refine wpAnyH_take (i := 2) (v := ?_) rfl (by kernel_rfl) (by kernel_rfl) (by kernel_rfl) (fun _ _ _ h => h) (Or.inl ⟨by rfl, ?_⟩) (by assumption) ?_
        rotate_left; focus (intro w hSw; (try dsimp only at hSw); go_simp; try (with_reducible rfl); done)
        try simp only [List.getElem_toArray, List.getElem_cons_zero, List.getElem_cons_succ, Act.put, List.setIfInBounds_toArray, List.set_cons_zero, List.set_cons_succ]
        refine wpAnyH_take (i := 3) (v := ?_) rfl (by kernel_rfl) (by kernel_rfl) (by kernel_rfl) (fun _ _ _ h => h) (Or.inl ⟨by rfl, ?_⟩) (by assumption) ?_
        rotate_left; focus (intro w hSw; (try dsimp only at hSw); go_simp; try (with_reducible rfl); done)
        try simp only [List.getElem_toArray, List.getElem_cons_zero, List.getElem_cons_succ, Act.put, List.setIfInBounds_toArray, List.set_cons_zero, List.set_cons_succ]
        refine wpAnyH_take (i := 4) (v := ?_) rfl (by kernel_rfl) (by kernel_rfl) (by kernel_rfl) (fun _ _ _ h => h) (Or.inl ⟨by rfl, ?_⟩) (by assumption) ?_
        rotate_left; focus (intro w hSw; (try dsimp only at hSw); go_simp; try (with_reducible rfl); done)
        try simp only [List.getElem_toArray, List.getElem_cons_zero, List.getElem_cons_succ, Act.put, List.setIfInBounds_toArray, List.set_cons_zero, List.set_cons_succ]
        refine wpAnyH_take (i := 5) (v := ?_) rfl (by kernel_rfl) (by kernel_rfl) (by kernel_rfl) (fun _ _ _ h => h) (Or.inl ⟨by rfl, ?_⟩) (by assumption) ?_
        rotate_left; focus (intro w hSw; (try dsimp only at hSw); go_simp; try (with_reducible rfl); done)
        try simp only [List.getElem_toArray, List.getElem_cons_zero, List.getElem_cons_succ, Act.put, List.setIfInBounds_toArray, List.set_cons_zero, List.set_cons_succ]
        refine wpAnyH_take (i := 6) (v := ?_) rfl (by kernel_rfl) (by kernel_rfl) (by kernel_rfl) (fun _ _ _ h => h) (Or.inl ⟨by rfl, ?_⟩) (by assumption) ?_
        rotate_left; focus (intro w hSw; (try dsimp only at hSw); go_simp; try (with_reducible rfl); done)
        try simp only [List.getElem_toArray, List.getElem_cons_zero, List.getElem_cons_succ, Act.put, List.setIfInBounds_toArray, List.set_cons_zero, List.set_cons_succ]
        refine wpAnyH_take (i := 7) (v := ?_) rfl (by kernel_rfl) (by kernel_rfl) (by kernel_rfl) (fun _ _ _ h => h) (Or.inl ⟨by rfl, ?_⟩) (by assumption) ?_
        rotate_left; focus (intro w hSw; (try dsimp only at hSw); go_simp; try (with_reducible rfl); done)
        try simp only [List.getElem_toArray, List.getElem_cons_zero, List.getElem_cons_succ, Act.put, List.setIfInBounds_toArray, List.set_cons_zero, List.set_cons_succ]
        refine wpAnyH_take (i := 8) (v := ?_) rfl (by kernel_rfl) (by kernel_rfl) (by kernel_rfl) (fun _ _ _ h => h) (Or.inl ⟨by rfl, ?_⟩) (by assumption) ?_
        rotate_left; focus (intro w hSw; (try dsimp only at hSw); go_simp; try (with_reducible rfl); done)
        try simp only [List.getElem_toArray, List.getElem_cons_zero, List.getElem_cons_succ, Act.put, List.setIfInBounds_toArray, List.set_cons_zero, List.set_cons_succ]
        refine wpAnyH_take (i := 9) (v := ?_) rfl (by kernel_rfl) (by kernel_rfl) (by kernel_rfl) (fun _ _ _ h => h) (Or.inl ⟨by rfl, ?_⟩) (by assumption) ?_
        rotate_left; focus (intro w hSw; (try dsimp only at hSw); go_simp; try (with_reducible rfl); done)
        try simp only [List.getElem_toArray, List.getElem_cons_zero, List.getElem_cons_succ, Act.put, List.setIfInBounds_toArray, List.set_cons_zero, List.set_cons_succ]
        refine wpAnyH_ready (rs := [10]) (by kernel_rfl) (by simp) ?_
        refine AllReadyH.cons rfl (fun K hK => ?_) AllReadyH.nil
        go_simp
        (go_at_call 84; refine HC.out.mono ?_; rintro e5 w5 ⟨ve, X2, rfl, hin2, hst5⟩; have z0 := HA0.out w5 w.heap.size (hst5.heapAt 6 rfl); have z1 : w5.cell? ⟨gt, i * 3, none⟩ = _ := TK.out _ _ (hst5.nth 4 rfl) 0 (by decide) _ rfl; have z2 := HCELL.out w5 hst5.bel; have HIN2 := Lib.hid hin2; have HST5 := Lib.hid hst5; clear hin2 hst5)
        refine hK.out _ _ ?_ (fun hHeld => ?_)
        · (try dsimp only); (first | exact ⟨y0, y1, y2⟩ | exact ⟨z0, z1, z2⟩)
        clear hK K
        try simp only [List.getElem_toArray, List.getElem_cons_zero, List.getElem_cons_succ, Act.put, List.setIfInBounds_toArray, List.set_cons_zero, List.set_cons_succ]
        refine wpAnyH_take (i := 11) (v := ?_) rfl (by kernel_rfl) (by kernel_rfl) (by kernel_rfl) (fun _ _ _ h => h) (Or.inl ⟨by rfl, ?_⟩) (by assumption) ?_
        rotate_left; focus (intro w hSw; (try dsimp only at hSw); go_simp; try (with_reducible rfl); done)
        try simp only [List.getElem_toArray, List.getElem_cons_zero, List.getElem_cons_succ, Act.put, List.setIfInBounds_toArray, List.set_cons_zero, List.set_cons_succ]
        refine wpAnyH_take (i := 12) (v := ?_) rfl (by kernel_rfl) (by kernel_rfl) (by kernel_rfl) (fun _ _ _ h => h) (Or.inl ⟨by rfl, ?_⟩) (by assumption) ?_
        rotate_left; focus (intro w hSw; (try dsimp only at hSw); go_simp; try (with_reducible rfl); done)
        try simp only [List.getElem_toArray, List.getElem_cons_zero, List.getElem_cons_succ, Act.put, List.setIfInBounds_toArray, List.set_cons_zero, List.set_cons_succ]
        refine wpAnyH_take (i := 13) (v := ?_) rfl (by kernel_rfl) (by kernel_rfl) (by kernel_rfl) (fun _ _ _ h => h) (Or.inl ⟨by rfl, ?_⟩) (by assumption) ?_
        rotate_left; focus (intro w hSw; (try dsimp only at hSw); go_simp; try (with_reducible rfl); done)
        try simp only [List.getElem_toArray, List.getElem_cons_zero, List.getElem_cons_succ, Act.put, List.setIfInBounds_toArray, List.set_cons_zero, List.set_cons_succ]
        refine wpAnyH_take (i := 14) (v := ?_) rfl (by kernel_rfl) (by kernel_rfl) (by kernel_rfl) (fun _ _ _ h => h) (Or.inl ⟨by rfl, ?_⟩) (by assumption) ?_
        rotate_left; focus (intro w hSw; (try dsimp only at hSw); go_simp; try (with_reducible rfl); done)
        try simp only [List.getElem_toArray, List.getElem_cons_zero, List.getElem_cons_succ, Act.put, List.setIfInBounds_toArray, List.set_cons_zero, List.set_cons_succ]
        refine wpAnyH_take (i := 15) (v := ?_) rfl (by kernel_rfl) (by kernel_rfl) (by kernel_rfl) (fun _ _ _ h => h) (Or.inl ⟨by rfl, ?_⟩) (by assumption) ?_
        rotate_left; focus (intro w hSw; (try dsimp only at hSw); go_simp; try (with_reducible rfl); done)
        try simp only [List.getElem_toArray, List.getElem_cons_zero, List.getElem_cons_succ, Act.put, List.setIfInBounds_toArray, List.set_cons_zero, List.set_cons_succ]
        refine wpAnyH_done (by kernel_rfl) ?_ _
        clear y0 y1 y2 z0 z1 z2 HSTX
        by_cases her : er = 0
        · subst her
          have hIN := HIN2.out (by first | trivial | rfl)
          have hle := HL.out.2.2.2.2
          have hoo := HOKJ.out
          have HSTO := Lib.hid (HST5.out.pick (ρ := aOwn 76 2 (.slice a n c) (out.map pairV) :: aOwn 76 2 ve (out2.map pairV) :: X2 :: aCel go 69 #[.slice a n c, .int .i64 0, .int .i64 0] :: aOwn 172 3 (.slice (some ⟨gt, 0, none⟩) L.length ct2) (L.map tokV) :: aCel (w.heap.size + 1) 69 #[.slice none 0 0, .int .i64 0, .int .i64 0] :: aCel w.heap.size 66 A :: []) [3, 1, 0, 2, 4, 5, 6] 7 rfl rfl)
          obtain ⟨x0, x1, x2⟩ := HSTO.out.at3 3 rfl
          have hl2 : out2.length ≤ 2001 := hoo.2.1
          have HLEN := Lib.hid (And.intro hl2 hle)
          have HEN := Lib.hid (Ws.evtsR HSTO.out 1 rfl (by omega))
          clear HST5 hoo hle hl2
          go_wp2_with (at_builtin; refine St.appSl evtE3 rfl (.tmp 66) (.tmp 67) rfl rfl HSTO.out (En := Enc.evt) (b2 := 16) rfl HEN.out rfl pairV (fun _ _ _ h => h) (fun a q hq => pair_one3 a q hq) (by have := HLEN.out; have := HLL.out; rw [List.length_map]; omega) (by have := HLEN.out; have := HLL.out; rw [List.length_map]; omega) ?_; intro v6 w6 hst6; obtain ⟨a6, n6, c6, rfl⟩ := Ws.shows (hst6.ownAt 0 rfl); have HST6 := Lib.hid hst6; obtain ⟨c0, c1, c2', f0, f1, f2⟩ := (hst6.nth 3 rfl).cel3; clear hst6)
          have HST7 := Lib.hid ((HST6.out.pick (ρ := aCel go 69 #[.slice a n c, .int .i64 0, .int .i64 0] :: aOwn 76 2 (.slice a6 n6 c6) (out.map pairV ++ out2.map pairV) :: aOwn 76 2 ve (out2.map pairV) :: X2 :: aOwn 172 3 (.slice (some ⟨gt, 0, none⟩) L.length ct2) (L.map tokV) :: aCel (w.heap.size + 1) 69 #[.slice none 0 0, .int .i64 0, .int .i64 0] :: aCel w.heap.size 66 A :: []) [3, 0, 1, 2, 4, 5, 6] 7 rfl rfl).setCel 0 (.slice a6 n6 c6))
          go_roundg (L.length - (i + 1))
          case measure => have := HGK.out; omega
          case rel =>
            refine ⟨i + 1, j + 1, st2, out ++ out2, X2, a6, n6, c6, by go_num, by omega, rfl, Lib.hid ⟨(HRUN.out.2.2 st out HNEG.out (by rw [hpr])).symm.trans HL.out.1 |> fun h => by rw [hpr] at h; exact h, ?_, by have := HL.out.2.2.1; omega, hIN, by rw [List.length_append]; have := HLEN.out; omega⟩, ?_⟩
            · exact HOKJ.out.1 (by first | trivial | rfl)
            · rw [List.map_append]
              exact HST7.out.pick [3, 0, 1, 4, 5, 6] 7 rfl rfl
        · have heb : (er != 0) = true := by rw [bne_iff_ne]; exact her
          have hw : Ws.whole P of (L, k) s.size ([(false, 0, 2, 0)], 0) = (out, er, f) := by
            have h1 := (HRUN.out.2.1 st out HNEG.out (by rw [hpr]; exact her)).symm.trans HL.out.1
            rw [hpr] at h1
            unfold Ws.whole
            simp only
            rw [← h1]
          have HW := Lib.hid hw
          clear hw her HRUN HOKJ HIN2
          have HSTO := Lib.hid (HST5.out.pick (ρ := aCel (w.heap.size + 1) 69 #[.slice none 0 0, .int .i64 0, .int .i64 0] :: aCel go 69 #[.slice a n c, .int .i64 0, .int .i64 0] :: aOwn 76 2 (.slice a n c) (out.map pairV) :: aOwn 172 3 (.slice (some ⟨gt, 0, none⟩) L.length ct2) (L.map tokV) :: []) [5, 2, 3, 4] 7 rfl rfl)
          clear HST5
          have y0 := (HSTO.out.at3 1 rfl).1
          have y1 : w5.cell? ⟨gt, i * 3 + 1, none⟩ = _ := TK.out _ _ (HSTO.out.nth 3 rfl) 1 (by decide) _ rfl
          obtain ⟨x0, x1, x2, f0, f1, f2⟩ := HSTO.out.cel3
          have HSTW := Lib.hid (((HSTO.out.setCel 0 (.slice a n c)).setCel 1 (.int .i64 er)).setCel 2 (.int .i64 f))
          have y0b := (HSTW.out.at3 1 rfl).1
          have y1b : (((w5.setCell ⟨w.heap.size + 1, 0, none⟩ (.slice a n c)).setCell ⟨w.heap.size + 1, 1, none⟩ (.int .i64 er)).setCell ⟨w.heap.size + 1, 2, none⟩ (.int .i64 f)).cell? ⟨gt, i * 3 + 1, none⟩ = _ := TK.out _ _ (HSTW.out.nth 3 rfl) 1 (by decide) _ rfl
          go_wp2_with (fail)
          refine wp_region_held_drew (S := (fun w' => w'.cell? ⟨go, 0, none⟩ = some (.slice a n c) ∧ w'.cell? ⟨gt, i * 3 + 1, none⟩ = some (.int .i64 f))) (by kernel_rfl) ?_ (fun hHeld => ?_)
          · (try dsimp only); (first | exact ⟨y0, y1⟩ | exact ⟨y0b, y1b⟩)

          refine wpAnyH_take (i := 0) (v := ?_) rfl (by kernel_rfl) (by kernel_rfl) (by kernel_rfl) (fun _ _ _ h => h) (Or.inl ⟨by rfl, ?_⟩) (by assumption) ?_
          rotate_left; focus (intro w hSw; (try dsimp only at hSw); go_simp; try (with_reducible rfl); done)
          try simp only [List.getElem_toArray, List.getElem_cons_zero, List.getElem_cons_succ, Act.put, List.setIfInBounds_toArray, List.set_cons_zero, List.set_cons_succ]
          refine wpAnyH_take (i := 1) (v := ?_) rfl (by kernel_rfl) (by kernel_rfl) (by kernel_rfl) (fun _ _ _ h => h) (Or.inl ⟨by rfl, ?_⟩) (by assumption) ?_
          rotate_left; focus (intro w hSw; (try dsimp only at hSw); go_simp; try (with_reducible rfl); done)
          try simp only [List.getElem_toArray, List.getElem_cons_zero, List.getElem_cons_succ, Act.put, List.setIfInBounds_toArray, List.set_cons_zero, List.set_cons_succ]
          refine wpAnyH_take (i := 2) (v := ?_) rfl (by kernel_rfl) (by kernel_rfl) (by kernel_rfl) (fun _ _ _ h => h) (Or.inl ⟨by rfl, ?_⟩) (by assumption) ?_
          rotate_left; focus (intro w hSw; (try dsimp only at hSw); go_simp; try (with_reducible rfl); done)
          try simp only [List.getElem_toArray, List.getElem_cons_zero, List.getElem_cons_succ, Act.put, List.setIfInBounds_toArray, List.set_cons_zero, List.set_cons_succ]
          refine wpAnyH_take (i := 3) (v := ?_) rfl (by kernel_rfl) (by kernel_rfl) (by kernel_rfl) (fun _ _ _ h => h) (Or.inl ⟨by rfl, ?_⟩) (by assumption) ?_
          rotate_left; focus (intro w hSw; (try dsimp only at hSw); go_simp; try (with_reducible rfl); done)
          try simp only [List.getElem_toArray, List.getElem_cons_zero, List.getElem_cons_succ, Act.put, List.setIfInBounds_toArray, List.set_cons_zero, List.set_cons_succ]
          refine wpAnyH_take (i := 4) (v := ?_) rfl (by kernel_rfl) (by kernel_rfl) (by kernel_rfl) (fun _ _ _ h => h) (Or.inl ⟨by rfl, ?_⟩) (by assumption) ?_
          rotate_left; focus (intro w hSw; (try dsimp only at hSw); go_simp; try (with_reducible rfl); done)
          try simp only [List.getElem_toArray, List.getElem_cons_zero, List.getElem_cons_succ, Act.put, List.setIfInBounds_toArray, List.set_cons_zero, List.set_cons_succ]
          refine wpAnyH_take (i := 5) (v := ?_) rfl (by kernel_rfl) (by kernel_rfl) (by kernel_rfl) (fun _ _ _ h => h) (Or.inl ⟨by rfl, ?_⟩) (by assumption) ?_
          rotate_left; focus (intro w hSw; (try dsimp only at hSw); go_simp; try (with_reducible rfl); done)
          try simp only [List.getElem_toArray, List.getElem_cons_zero, List.getElem_cons_succ, Act.put, List.setIfInBounds_toArray, List.set_cons_zero, List.set_cons_succ]
          refine wpAnyH_take (i := 6) (v := ?_) rfl (by kernel_rfl) (by kernel_rfl) (by kernel_rfl) (fun _ _ _ h => h) (Or.inl ⟨by rfl, ?_⟩) (by assumption) ?_
          rotate_left; focus (intro w hSw; (try dsimp only at hSw); go_simp; try (with_reducible rfl); done)
          try simp only [List.getElem_toArray, List.getElem_cons_zero, List.getElem_cons_succ, Act.put, List.setIfInBounds_toArray, List.set_cons_zero, List.set_cons_succ]
          refine wpAnyH_take (i := 7) (v := ?_) rfl (by kernel_rfl) (by kernel_rfl) (by kernel_rfl) (fun _ _ _ h => h) (Or.inl ⟨by rfl, ?_⟩) (by assumption) ?_
          rotate_left; focus (intro w hSw; (try dsimp only at hSw); go_simp; try (with_reducible rfl); done)
          try simp only [List.getElem_toArray, List.getElem_cons_zero, List.getElem_cons_succ, Act.put, List.setIfInBounds_toArray, List.set_cons_zero, List.set_cons_succ]
          refine wpAnyH_take (i := 8) (v := ?_) rfl (by kernel_rfl) (by kernel_rfl) (by kernel_rfl) (fun _ _ _ h => h) (Or.inl ⟨by rfl, ?_⟩) (by assumption) ?_
          rotate_left; focus (intro w hSw; (try dsimp only at hSw); go_simp; try (with_reducible rfl); done)
          try simp only [List.getElem_toArray, List.getElem_cons_zero, List.getElem_cons_succ, Act.put, List.setIfInBounds_toArray, List.set_cons_zero, List.set_cons_succ]
          refine wpAnyH_ready (rs := [9]) (by kernel_rfl) (by simp) ?_
          refine AllReadyH.cons rfl (fun K hK => ?_) AllReadyH.nil
          go_simp
          refine hK.out _ _ ?_ (fun hHeld => ?_)
          · (try dsimp only); (first | exact ⟨y0, y1⟩ | exact ⟨y0b, y1b⟩)
          clear hK K
          try simp only [List.getElem_toArray, List.getElem_cons_zero, List.getElem_cons_succ, Act.put, List.setIfInBounds_toArray, List.set_cons_zero, List.set_cons_succ]
          refine wpAnyH_done (by kernel_rfl) ?_ _
          clear y0 y1 y0b y1b x0 x1 x2 f0 f1 f2
          have HST8 := Lib.hid HSTW.out.drew
          generalize World.drew _ = w8 at HST8 ⊢
          obtain ⟨d0, d1, d2, -, -, -⟩ := HST8.out.cel3
          go_wp2_with (fail)
          refine bodyPost_ret (Ws.resT1 rfl _ _ (w.heap.size + 1) rfl d0 d1 d2) rfl ?_
          rw [HW.out]
          exact ⟨_, rfl, HST8.out.pick [2] 4 rfl rfl⟩
    · have hil : i = L.length := by omega
      have hltI : decide ((i : Int) < (L.length : Int)) = false := decide_eq_false (by omega)
      have hltf : ¬ ((i : Int) < (L.length : Int)) := by omega
      have hrun := HL.out.1
      rw [Ws.run_nil (by omega)] at hrun
      have HRUN := Lib.hid hrun
      clear hlt hrun
      by_cases hk : 0 ≤ k
      · have hkd : decide (0 ≤ k) = true := decide_eq_true hk
        have hw : Ws.whole P of (L, k) s.size ([(false, 0, 2, 0)], 0) = (out, 9, k) := by
          unfold Ws.whole
          simp only
          rw [← HRUN.out]
          simp only
          rw [if_pos hk]
        have HW := Lib.hid hw
        clear hw hil
        have HSTO := Lib.hid (HS0.out.pick (ρ := aCel (w.heap.size + 1) 69 #[.slice none 0 0, .int .i64 0, .int .i64 0] :: aCel go 69 #[.slice a n c, .int .i64 0, .int .i64 0] :: aOwn 76 2 (.slice a n c) (out.map pairV) :: []) [4, 1, 2] 6 rfl rfl)
        obtain ⟨x0, x1, x2, f0, f1, f2⟩ := HSTO.out.cel3
        obtain ⟨r0, r1, r2, h0, h1, h2⟩ := (HSTO.out.nth 1 rfl).cel3
        have HSTW := Lib.hid (((HSTO.out.setCel 0 (.slice a n c)).setCel 1 (.int .i64 9)).setCel 2 (.int .i64 k))
        go_wp2_with (fail)
        obtain ⟨d0, d1, d2, -, -, -⟩ := HSTW.out.cel3
        refine bodyPost_ret (Ws.resT1 rfl _ _ (w.heap.size + 1) rfl d0 d1 d2) rfl ?_
        rw [HW.out]
        exact ⟨_, rfl, HSTW.out.pick [2] 3 rfl rfl⟩
      · have hkd : decide (0 ≤ k) = false := decide_eq_false hk
        have hw : Ws.whole P of (L, k) s.size ([(false, 0, 2, 0)], 0) = (out ++ (P.fin st).2, (P.fin st).1, (s.size : Int)) := by
          unfold Ws.whole
          simp only
          rw [← HRUN.out]
          simp only
          rw [if_neg hk]
        have HW := Lib.hid hw
        have hj5 : j ≤ 5000 := by have := HL.out.2.2.1; have := HLL.out; omega
        have hok2 := (HOK.out j st 0 HL.out.2.1 hj5 (by omega)).2.2
        clear hw hil
        have a9 := HA9.out wr w.heap.size (HS0.out.heapAt 5 rfl)
        have HSTX := Lib.hid (HS0.out.pick (ρ := X :: aCel go 69 #[.slice a n c, .int .i64 0, .int .i64 0] :: aOwn 76 2 (.slice a n c) (out.map pairV) :: aCel (w.heap.size + 1) 69 #[.slice none 0 0, .int .i64 0, .int .i64 0] :: []) [0, 1, 2, 4] 6 rfl rfl)
        have HC := HEND2.out w wr _ j st X HSTX.out.bel (Nat.le_refl _) HL.out.2.2.2.1 HL.out.2.1 hj5 HSTX.out
        replace HC := Lib.hid HC
        generalize P.fin st = pr at HC hok2 HW
        obtain ⟨er, out2⟩ := pr
        simp only at HC hok2 HW
        have hle := HL.out.2.2.2.2
        have HLEN := Lib.hid (And.intro hok2 hle)
        clear hok2 hle
        go_wp2_with (fail)
        go_at_call 84
        refine HC.out.mono ?_
        rintro e5 w5 ⟨ve, X2, rfl, hst5⟩
        have HST5 := Lib.hid hst5
        clear hst5 a9
        have HSTO := Lib.hid (HST5.out.pick (ρ := aOwn 76 2 (.slice a n c) (out.map pairV) :: aOwn 76 2 ve (out2.map pairV) :: aCel go 69 #[.slice a n c, .int .i64 0, .int .i64 0] :: aCel (w.heap.size + 1) 69 #[.slice none 0 0, .int .i64 0, .int .i64 0] :: []) [3, 1, 2, 4] 5 rfl rfl)
        obtain ⟨x0, x1, x2⟩ := HSTO.out.at3 2 rfl
        have HEN := Lib.hid (Ws.evtsR HSTO.out 1 rfl (by have := HLEN.out.1; omega))
        clear HST5 HSTX
        go_wp2_with (at_builtin; refine St.appSl evtE3 rfl (.tmp 85) (.tmp 86) rfl rfl HSTO.out (En := Enc.evt) (b2 := 16) rfl HEN.out rfl pairV (fun _ _ _ h => h) (fun a q hq => pair_one3 a q hq) (by have := HLEN.out; have := HLL.out; rw [List.length_map]; omega) (by have := HLEN.out; have := HLL.out; rw [List.length_map]; omega) ?_; intro v6 w6 hst6; obtain ⟨a6, n6, c6, rfl⟩ := Ws.shows (hst6.ownAt 0 rfl); have HST6 := Lib.hid hst6; obtain ⟨r0, r1, r2, h0, h1, h2⟩ := (hst6.nth 3 rfl).cel3; clear hst6)
        have HSTW := Lib.hid ((((HST6.out.pick (ρ := aCel (w.heap.size + 1) 69 #[.slice none 0 0, .int .i64 0, .int .i64 0] :: aOwn 76 2 (.slice a6 n6 c6) (out.map pairV ++ out2.map pairV) :: []) [3, 0] 4 rfl rfl).setCel 0 (.slice a6 n6 c6)).setCel 1 (.int .i64 er)).setCel 2 (.int .i64 (s.size : Int)))
        obtain ⟨d0, d1, d2, -, -, -⟩ := HSTW.out.cel3
        refine bodyPost_ret (Ws.resT1 rfl _ _ (w.heap.size + 1) rfl d0 d1 d2) rfl ?_
        rw [HW.out]
        refine ⟨_, rfl, ?_⟩
        rw [List.map_append]
        exact HSTW.out.drop

set_option maxRecDepth 100000 in
set_option maxHeartbeats 4000000 in
theorem wsWholeS (A : Array Value) (m : Mk.Md) (v0 : Value) (Pc : Array Value) (vn vt vp vr va vg : Value) (s : ByteArray) (w : World) (hm : MadeAt (fun b => b < w.heap.size) w A m v0 Pc vn vt vp vr va vg) (he0 : Mk.err m = 0) (hmode : m.2.2.2.1 = 2) (he : Tb.all m.2.2.1.1 m.2.2.1.2.1 m.2.2.1.2.2 m.2.2.2.2.2.1 m.2.2.2.2.2.2 = 0) (hs : s.size ≤ 2000) :
    Calls Try.prog 27 #[.agg A, .string s] w (Ws.RetWhole (Ws.whole (Ws.stacker m.2.2.1.2.2 m.2.2.2.2.2.1 m.2.2.2.2.2.2 m.2.2.1.1.toNat) m.1 (Lx.toks m.2.1.1 m.2.1.2.1 m.2.1.2.2 s.size s.data.toList 0 []) s.size ([0], 0)) w) := by
  obtain ⟨z1, z2, z3, z4, z5, z6, -⟩ := Ws.mk_zero he0
  have hgr := Gr.err_zero z2
  have htt : ((m.2.2.1.1.toNat : Nat) : Int) = m.2.2.1.1 := by omega
  have ht0 : 0 ≤ m.2.2.1.1 := hgr.1
  obtain ⟨hg, h200⟩ : Pkd.Good m.2.1.1 m.2.1.2.1 m.2.1.2.2 ∧ m.2.1.2.1.length ≤ 200 := (Pkd.err_cases m.2.1.1 m.2.1.2.1 m.2.1.2.2).elim (fun h => by omega) (fun h => ⟨h.2.2, h.2.1⟩)
  have hst := ((St.init w).alloc A 66).alloc #[.slice none 0 0, .int .i64 0, .int .i64 0] 69
  simp only [World.size_alloc] at hst
  have hsz : (Try.prog.info? 66).map (fun x => x.size) = some A.size := by rw [hm.size]; kernel_rfl
  have hpz : (Try.prog.info? 61).map (fun x => x.size) = some Pc.toList.length := by rw [Array.length_toList, hm.psize]; kernel_rfl
  have HS := Lib.hid hsz; have HPZ := Lib.hid hpz
  have HA := Lib.hid (hst.heapAt 1 rfl)
  have HPK : Hid (∀ (W : World) (g : Nat), W.heap[g]? = some (.cells A 66 (0, 0)) → W.rangeAt g 1 Pc.toList) := Lib.hid (fun W g h => (hm.box h).pk)
  have HW := Lib.hid (fun W (hW : Below w.heap.size w W) => wide_ok Pc m.2.1.1 m.2.1.2.1 m.2.1.2.2 vn vt W (hm.packed.below hW) h200 hg)
  have HT := Lib.hid (fun v W h => tokens_any v m.2.1.1 m.2.1.2.1 m.2.1.2.2 s (by omega) W h hg h200)
  have HDF : Hid (∀ (v0 : Value) (W : World) (B : Nat), Own W B 142 256 v0 ((Wd.rows m.2.1.1 m.2.1.2.1 m.2.1.2.1.length).map Wd.rowV) → Below w.heap.size w W → DfaAt W (.agg #[v0, vt]) (Wd.rows m.2.1.1 m.2.1.2.1 m.2.1.2.1.length) m.2.1.2.2) :=
    Lib.hid (fun v0 W B ho hb => ⟨v0, _, rfl, Wd.sl ho (Wd.rows_wf m.2.1.1 m.2.1.2.1 m.2.1.2.2 hg h200 (fun c hc => (hm.packed.of_wf c hc).1)), hm.packed.tagss.call hb (fun _ _ h => h)⟩)
  have HBEG := Lib.hid (fun W => wsRBegun A hm.size W)
  have HPUSH := Lib.hid (fun g (Ur : Array Value) (hU : Ur.size = 4) => wsRefSPush w A Ur m v0 Pc vn vt vp vr va vg hm hmode he m.2.2.1.1.toNat htt g hU)
  have HEND := fun g (Ur : Array Value) (hU : Ur.size = 4) => wsRefSEnd w A Ur m v0 Pc vn vt vp vr va vg hm hmode he m.2.2.1.1.toNat htt g hU
  rw [htt] at HEND
  replace HEND := Lib.hid HEND
  have htk := Ws.toks_ok (of := m.2.1.1) (next := m.2.1.2.1) (tags := m.2.1.2.2) z3 z6 s.size s.size s.data.toList 0 [] (by omega) (by simp) (by simp) (fun x hx => by cases hx)
  have HOK : Hid (∀ (j : Nat) (st : (List Int × Int)) (c : Nat), (Ws.okS m.2.2.2.2.2.1.length) j st → j ≤ 5000 → (c : Int) ≤ m.2.2.1.1 → (((Ws.stacker m.2.2.1.2.2 m.2.2.2.2.2.1 m.2.2.2.2.2.2 m.2.2.1.1.toNat).push st c).1 = 0 → (Ws.okS m.2.2.2.2.2.1.length) (j + 1) ((Ws.stacker m.2.2.1.2.2 m.2.2.2.2.2.1 m.2.2.2.2.2.2 m.2.2.1.1.toNat).push st c).2.1) ∧ ((Ws.stacker m.2.2.1.2.2 m.2.2.2.2.2.1 m.2.2.2.2.2.2 m.2.2.1.1.toNat).push st c).2.2.length ≤ 2001 ∧ ((Ws.stacker m.2.2.1.2.2 m.2.2.2.2.2.1 m.2.2.2.2.2.2 m.2.2.1.1.toNat).fin st).2.length ≤ 2001) :=
    Lib.hid (fun j st c hk hj hc => ⟨fun h0 => Ws.okS_push hk hj he hc h0, Ws.okS_len hk hj he (c := c) hc (by omega)⟩)
  have HBG : Hid ((Ws.okS m.2.2.2.2.2.1.length) 0 ([0], 0)) := Lib.hid (Ws.okS_begin he)
  obtain ⟨ao, bo, oo, co, hv0, -, o3, o4⟩ := Enc.sl1 (En := Enc.int .i64) (Value.int .i64) (fun _ _ _ h => h.1) rfl 0 hm.ofs
  subst hv0
  have O3 : Hid (∀ (q : Int), 0 ≤ q → q < m.1.length → ao = some ⟨bo, oo, none⟩ ∧ (∀ W, Below w.heap.size w W → W.cell? ⟨bo, oo + q.toNat, none⟩ = some (.int .i64 (m.1.getD q.toNat 0))) ∧ m.1.getD q.toNat 0 < m.2.2.1.1 ∧ -1 ≤ m.1.getD q.toNat 0) :=
    Lib.hid (fun q h0 h1 => ⟨(o3 (by omega)).1, fun W hW => bkeep hW (o4 q.toNat (by omega)).1, (z5 q.toNat (by omega)).2, (z5 q.toNat (by omega)).1⟩)
  have HA0 : Hid (∀ (W : World) (g : Nat), W.heap[g]? = some (.cells A 66 (0, 0)) → W.cell? ⟨g, 0, none⟩ = some (.slice ao m.1.length co)) := Lib.hid (fun W g h => (hm.box h).c0)
  have HA9 : Hid (∀ (W : World) (g : Nat), W.heap[g]? = some (.cells A 66 (0, 0)) → W.cell? ⟨g, 259, none⟩ = some (.int .i64 m.2.2.1.1)) := Lib.hid (fun W g h => (hm.box h).c259)
  generalize hP : (Ws.stacker m.2.2.1.2.2 m.2.2.2.2.2.1 m.2.2.2.2.2.2 m.2.2.1.1.toNat) = P at *
  generalize hok : (Ws.okS m.2.2.2.2.2.1.length) = ok at *
  generalize hX : (Lx.toks m.2.1.1 m.2.1.2.1 m.2.1.2.2 s.size s.data.toList 0 []) = X at *
  generalize m.1 = of at *
  generalize m.2.2.1.1 = t at *
  generalize Wd.rows m.2.1.1 m.2.1.2.1 m.2.1.2.1.length = rws at *
  generalize m.2.1.2.2 = tags at *
  have HTK := Lib.hid htk
  obtain ⟨L, k⟩ := X
  simp only at HTK
  have hsI : (s.size : Int) ≤ 2000 := by omega
  have HLL := Lib.hid (show L.length ≤ 2000 by have := HTK.out.2; omega)
  have HST := Lib.hid hst
  clear hst hm he he0 hmode hsz hpz z1 z2 z3 z4 z5 z6 hgr htt htk o3 o4 hP hok hX hs hg h200
  go_enter Try.func27, Try.ntmps27
  go_wp2_with (refine wpList_load_mid rfl 61 (.tmp 15) rfl w.heap.size 1 rfl Pc.toList _ (HPK.out _ _ HA.out) Try.underlying61 rfl HPZ.out ?_)
  go_at_call 82
  refine (HW.out _ HST.out.bel).mono ?_
  rintro e1 w1 ⟨vr0, rfl, ho1, hb1⟩
  have HST1 := Lib.hid (HST.out.pushOwn hb1 ho1)
  have HDF1 := Lib.hid (HDF.out vr0 w1 _ ho1 HST1.out.bel)
  clear ho1 hb1
  go_wp2_with (fail)
  go_at_call 81
  refine (HT.out _ _ HDF1.out).mono ?_
  rintro e2 w2 ⟨vt2, rfl, ho2, hb2⟩
  have HST2 := Lib.hid ((HST1.out.pushOwn hb2 ho2).pick (ρ := aOwn 172 3 vt2 (L.map tokV) :: aCel (w.heap.size + 1) 69 #[.slice none 0 0, .int .i64 0, .int .i64 0] :: aCel w.heap.size 66 A :: []) [0, 2, 3] 4 rfl rfl)
  have HA2 := Lib.hid (HST2.out.heapAt 2 rfl)
  obtain ⟨at2, ct2, hvt⟩ := Ws.showsLen (HST2.out.ownAt 0 rfl)
  rw [List.length_map] at hvt
  subst hvt
  clear ho2 hb2
  go_wp2_with (refine wpList_load_row rfl 66 (.tmp 2) rfl w.heap.size rfl 66 A (0, 0) _ HA2.out Try.underlying66 rfl HS.out ?_)
  go_at_call 83
  refine (HBEG.out _).mono ?_
  rintro e3 w3 ⟨g, vc, vs, rfl, hr3⟩
  have hx3 := ((HST2.out.joined hr3).pick (ρ := aCel g 240 (A.toList ++ ([vc, .int .i64 0, .int .i64 0, .bool false] ++ [vs, .int .i64 0, .int .i64 0, .bool false])).toArray :: aOwn 3 1 vs ([(0 : Int)].map (Value.int .i64)) :: aOwn 172 3 (.slice at2 L.length ct2) (L.map tokV) :: aCel (w.heap.size + 1) 69 #[.slice none 0 0, .int .i64 0, .int .i64 0] :: aCel w.heap.size 66 A :: []) ([0, 2] ++ [3, 4, 5]) 6 rfl rfl)
  have hfour : (A.toList ++ ([vc, .int .i64 0, .int .i64 0, .bool false] ++ [vs, .int .i64 0, .int .i64 0, .bool false])).toArray = Ws.four (A ++ #[vc, .int .i64 0, .int .i64 0, .bool false]) #[] vs 0 0 false := by simp [Ws.four]
  rw [hfour] at hx3
  have HIN0 : Hid (Ws.InS g 240 (A ++ #[vc, .int .i64 0, .int .i64 0, .bool false]) #[] ([0], 0) (aPair (aCel g 240 (Ws.four (A ++ #[vc, .int .i64 0, .int .i64 0, .bool false]) #[] vs 0 0 false)) (aOwn 3 1 vs ([(0 : Int)].map (Value.int .i64))))) := Lib.hid ⟨vs, rfl⟩
  have HST3 := Lib.hid ((show St w w3 ((aPair (aCel g 240 (Ws.four (A ++ #[vc, .int .i64 0, .int .i64 0, .bool false]) #[] vs 0 0 false)) (aOwn 3 1 vs ([(0 : Int)].map (Value.int .i64)))) :: aOwn 172 3 (.slice at2 L.length ct2) (L.map tokV) :: aCel (w.heap.size + 1) 69 #[.slice none 0 0, .int .i64 0, .int .i64 0] :: aCel w.heap.size 66 A :: []) from hx3.pair).alloc #[.slice none 0 0, .int .i64 0, .int .i64 0] 69)
  generalize hX0 : (aPair (aCel g 240 (Ws.four (A ++ #[vc, .int .i64 0, .int .i64 0, .bool false]) #[] vs 0 0 false)) (aOwn 3 1 vs ([(0 : Int)].map (Value.int .i64)))) = X0 at HIN0 HST3
  have hpush := HPUSH.out g #[vc, .int .i64 0, .int .i64 0, .bool false] rfl
  have hend := HEND.out g #[vc, .int .i64 0, .int .i64 0, .bool false] rfl
  generalize #[vc, .int .i64 0, .int .i64 0, .bool false] = U at hpush hend HIN0 hfour hX0
  generalize hAA : (A ++ U) = AA at hpush hend HIN0
  have HPUSH2 := Lib.hid hpush
  have HEND2 := Lib.hid hend
  generalize hgo : w3.heap.size = go at HST3
  clear hr3 hx3 hfour hX0 hpush hend hAA
  go_wp2_with (fail)
  go_loopg [9] L.length (fun gk v40 wr => ∃ (i j : Nat) (st : (List Int × Int)) (out : List Ws.Ev) (X : Asrt) (a : Option Addr) (n c : Nat), v40 = .int .i64 (i : Int) ∧ i ≤ L.length ∧ gk = L.length - i ∧ Hid (Ws.run P of (L.drop i) st out = Ws.run P of L ([0], 0) [] ∧ ok j st ∧ j ≤ i ∧ Ws.InS g 240 AA #[] st X ∧ out.length ≤ 2001 * i) ∧ St w wr (X :: aCel go 69 #[.slice a n c, .int .i64 0, .int .i64 0] :: aOwn 76 2 (.slice a n c) (out.map pairV) :: aOwn 172 3 (.slice at2 L.length ct2) (L.map tokV) :: aCel (w.heap.size + 1) 69 #[.slice none 0 0, .int .i64 0, .int .i64 0] :: aCel w.heap.size 66 A :: []))
  case atStart =>
    refine ⟨0, 0, ([0], 0), [], X0, none, 0, 0, rfl, Nat.zero_le _, rfl, Lib.hid ⟨by rw [List.drop_zero], HBG.out, Nat.le_refl _, HIN0.out, by simp⟩, ?_⟩
    exact (HST3.out.nilOwn 76 2).pick [2, 1, 0, 3, 4, 5] 6 rfl rfl
  case round =>
    clear HST HST1 HST2 HST3 HA HA2 HIN0 HBEG HPK HBG HW HT HDF HDF1 HPUSH HEND
    obtain ⟨i, j, st, out, X, a, n, c, rfl, hi, hgk, HL, hst⟩ := hrel
    have HGK := Lib.hid hgk
    have HSL := Lib.hid (fun q => hst.drewN q)
    have HS0 := Lib.hid hst
    clear hst hgk
    have hLL := HLL.out
    have x0lt : w.heap.size < wr.heap.size := ((HS0.out.nth 5 rfl).lo _ (.head _) _ (.head _)).2
    by_cases hlt : i < L.length
    · have hltI : (i : Int) < (L.length : Int) := by omega
      obtain ⟨gt, rfl⟩ := (HS0.out.ownAt 3 rfl).addr (by rw [List.length_map]; omega)
      have TK := Lib.hid (fun (W : World) (μ : List Asrt) (h : St w W (aOwn 172 3 (.slice (some ⟨gt, 0, none⟩) L.length ct2) (L.map tokV) :: μ)) (q : Nat) (hq : q < 3) (v : Value) (hv : (tokV (L.getD i (0, 0, 0))).cells.toList[q]? = some v) => h.cellsN (f := tokV) (fun _ => rfl) i hlt (0, 0, 0) q hq v hv)
      have t0 : wr.cell? ⟨gt, i * 3, none⟩ = _ := TK.out _ _ (HS0.out.nth 3 rfl) 0 (by decide) _ rfl
      have hmem := HTK.out.1 (L.getD i (0, 0, 0)) (by rw [List.getD_eq_getElem?_getD, List.getElem?_eq_getElem hlt]; exact List.getElem_mem _)
      obtain ⟨q0, q1, q2, q3⟩ := hmem
      obtain ⟨rfl, hcell, hc1, hc2⟩ := O3.out _ q0 q1
      have HRUN := Lib.hid (And.intro (fun st out => Ws.run_skip (P := P) (of := of) (st := st) (out := out) hlt) (And.intro (fun st out => Ws.run_bad (P := P) (of := of) (st := st) (out := out) hlt) (fun st out => Ws.run_go (P := P) (of := of) (st := st) (out := out) hlt)))
      have ofc := hcell wr HS0.out.bel
      have a0 := HA0.out wr w.heap.size (HS0.out.heapAt 5 rfl)
      have HCELL := Lib.hid hcell
      generalize L.getD i (0, 0, 0) = kk at *
      obtain ⟨r, f, to3⟩ := kk
      simp only [show ∀ (a b c : Int), (tokV (a, b, c)).cells.toList = [.int .i64 a, .int .i64 b, .int .i64 c] from fun _ _ _ => rfl] at TK
      simp only at t0 q0 q1 q2 q3 hc1 hc2 ofc HRUN HCELL
      obtain ⟨r, rfl⟩ := Int.eq_ofNat_of_zero_le q0
      rw [Int.toNat_natCast] at ofc hc1 hc2 HRUN HCELL
      generalize hcc : of.getD r 0 = cc at *
      have blt := World.block_lt_of_cell? _ _ ofc
      have glt := World.block_lt_of_cell? _ _ t0
      have hrlt : r < of.length := by omega
      simp only at blt glt
      clear hcell hcc
      by_cases hneg : cc < 0
      · have hd : decide (cc < 0) = true := decide_eq_true hneg
        go_wp2_with (fail)
        go_quiet (fail)
        have HST4 := Lib.hid (HSL.out nq)
        clear ofc a0 t0
        generalize World.drewN _ _ = w4 at HST4 ⊢
        go_wp2_with (fail)
        go_roundg (L.length - (i + 1))
        case measure => have := HGK.out; omega
        case rel => exact ⟨i + 1, j, st, out, X, a, n, c, by go_num, by omega, rfl, Lib.hid ⟨(HRUN.out.1 st out hneg).symm.trans HL.out.1, HL.out.2.1, Nat.le_succ_of_le HL.out.2.2.1, HL.out.2.2.2.1, by have := HL.out.2.2.2.2; omega⟩, HST4.out⟩
      · have hd : decide (cc < 0) = false := decide_eq_false hneg
        obtain ⟨c2, rfl⟩ := Int.eq_ofNat_of_zero_le (show 0 ≤ cc by omega)
        go_wp2_with (fail)
        go_quiet (fail)
        have HSTX := Lib.hid (HSL.out nq)
        clear ofc a0 t0 hd
        generalize World.drewN _ _ = w4 at HSTX ⊢
        have HNEG := Lib.hid hneg
        rw [Int.toNat_natCast] at HRUN
        have hj5 : j ≤ 5000 := by have := HL.out.2.2.1; have := HLL.out; omega
        have HOKJ := Lib.hid (HOK.out j st c2 HL.out.2.1 hj5 (by omega))
        have y0 := HA0.out w4 w.heap.size (HSTX.out.heapAt 5 rfl)
        have y1 : w4.cell? ⟨gt, i * 3, none⟩ = _ := TK.out _ _ (HSTX.out.nth 3 rfl) 0 (by decide) _ rfl
        have y2 := HCELL.out w4 HSTX.out.bel
        have HC := HPUSH2.out w w4.drew _ j st X c2 HSTX.out.bel.drew (Nat.le_refl _) HL.out.2.2.2.1 HL.out.2.1 hj5 (by omega) HSTX.out.drew
        replace HC := Lib.hid HC
        generalize hpr : P.push st c2 = pr at HC HRUN HOKJ
        obtain ⟨er, st2, out2⟩ := pr
        simp only at HC
        clear HS0 HSL x0lt glt blt
        go_wp2_with (fail)
        refine wp_region_held_drew (S := (fun w' => w'.cell? ⟨w.heap.size, 0, none⟩ = some (.slice (some ⟨bo, oo, none⟩) of.length co) ∧ w'.cell? ⟨gt, i * 3, none⟩ = some (.int .i64 (r : Int)) ∧ w'.cell? ⟨bo, oo + r, none⟩ = some (.int .i64 (c2 : Int)))) (by kernel_rfl) ?_ (fun hHeld => ?_)
        · (try dsimp only); (first | exact ⟨y0, y1, y2⟩ | exact ⟨z0, z1, z2⟩)

        refine wpAnyH_take (i := 0) (v := ?_) rfl (by kernel_rfl) (by kernel_rfl) (by kernel_rfl) (fun _ _ _ h => h) (Or.inl ⟨by rfl, ?_⟩) (by assumption) ?_
        rotate_left; focus (intro w hSw; (try dsimp only at hSw); go_simp; try (with_reducible rfl); done)
        try simp only [List.getElem_toArray, List.getElem_cons_zero, List.getElem_cons_succ, Act.put, List.setIfInBounds_toArray, List.set_cons_zero, List.set_cons_succ]
        refine wpAnyH_take (i := 1) (v := ?_) rfl (by kernel_rfl) (by kernel_rfl) (by kernel_rfl) (fun _ _ _ h => h) (Or.inl ⟨by rfl, ?_⟩) (by assumption) ?_
        rotate_left; focus (intro w hSw; (try dsimp only at hSw); go_simp; try (with_reducible rfl); done)
        try simp only [List.getElem_toArray, List.getElem_cons_zero, List.getElem_cons_succ, Act.put, List.setIfInBounds_toArray, List.set_cons_zero, List.set_cons_succ]
        refine wpAnyH_take (i := 2) (v := ?_) rfl (by kernel_rfl) (by kernel_rfl) (by kernel_rfl) (fun _ _ _ h => h) (Or.inl ⟨by rfl, ?_⟩) (by assumption) ?_
        rotate_left; focus (intro w hSw; (try dsimp only at hSw); go_simp; try (with_reducible rfl); done)
        try simp only [List.getElem_toArray, List.getElem_cons_zero, List.getElem_cons_succ, Act.put, List.setIfInBounds_toArray, List.set_cons_zero, List.set_cons_succ]
        refine wpAnyH_take (i := 3) (v := ?_) rfl (by kernel_rfl) (by kernel_rfl) (by kernel_rfl) (fun _ _ _ h => h) (Or.inl ⟨by rfl, ?_⟩) (by assumption) ?_
        rotate_left; focus (intro w hSw; (try dsimp only at hSw); go_simp; try (with_reducible rfl); done)
        try simp only [List.getElem_toArray, List.getElem_cons_zero, List.getElem_cons_succ, Act.put, List.setIfInBounds_toArray, List.set_cons_zero, List.set_cons_succ]
        refine wpAnyH_take (i := 4) (v := ?_) rfl (by kernel_rfl) (by kernel_rfl) (by kernel_rfl) (fun _ _ _ h => h) (Or.inl ⟨by rfl, ?_⟩) (by assumption) ?_
        rotate_left; focus (intro w hSw; (try dsimp only at hSw); go_simp; try (with_reducible rfl); done)
        try simp only [List.getElem_toArray, List.getElem_cons_zero, List.getElem_cons_succ, Act.put, List.setIfInBounds_toArray, List.set_cons_zero, List.set_cons_succ]
        refine wpAnyH_take (i := 5) (v := ?_) rfl (by kernel_rfl) (by kernel_rfl) (by kernel_rfl) (fun _ _ _ h => h) (Or.inl ⟨by rfl, ?_⟩) (by assumption) ?_
        rotate_left; focus (intro w hSw; (try dsimp only at hSw); go_simp; try (with_reducible rfl); done)
        try simp only [List.getElem_toArray, List.getElem_cons_zero, List.getElem_cons_succ, Act.put, List.setIfInBounds_toArray, List.set_cons_zero, List.set_cons_succ]
        refine wpAnyH_take (i := 6) (v := ?_) rfl (by kernel_rfl) (by kernel_rfl) (by kernel_rfl) (fun _ _ _ h => h) (Or.inl ⟨by rfl, ?_⟩) (by assumption) ?_
        rotate_left; focus (intro w hSw; (try dsimp only at hSw); go_simp; try (with_reducible rfl); done)
        try simp only [List.getElem_toArray, List.getElem_cons_zero, List.getElem_cons_succ, Act.put, List.setIfInBounds_toArray, List.set_cons_zero, List.set_cons_succ]
        refine wpAnyH_take (i := 7) (v := ?_) rfl (by kernel_rfl) (by kernel_rfl) (by kernel_rfl) (fun _ _ _ h => h) (Or.inl ⟨by rfl, ?_⟩) (by assumption) ?_
        rotate_left; focus (intro w hSw; (try dsimp only at hSw); go_simp; try (with_reducible rfl); done)
        try simp only [List.getElem_toArray, List.getElem_cons_zero, List.getElem_cons_succ, Act.put, List.setIfInBounds_toArray, List.set_cons_zero, List.set_cons_succ]
        refine wpAnyH_take (i := 8) (v := ?_) rfl (by kernel_rfl) (by kernel_rfl) (by kernel_rfl) (fun _ _ _ h => h) (Or.inl ⟨by rfl, ?_⟩) (by assumption) ?_
        rotate_left; focus (intro w hSw; (try dsimp only at hSw); go_simp; try (with_reducible rfl); done)
        try simp only [List.getElem_toArray, List.getElem_cons_zero, List.getElem_cons_succ, Act.put, List.setIfInBounds_toArray, List.set_cons_zero, List.set_cons_succ]
        refine wpAnyH_take (i := 9) (v := ?_) rfl (by kernel_rfl) (by kernel_rfl) (by kernel_rfl) (fun _ _ _ h => h) (Or.inl ⟨by rfl, ?_⟩) (by assumption) ?_
        rotate_left; focus (intro w hSw; (try dsimp only at hSw); go_simp; try (with_reducible rfl); done)
        try simp only [List.getElem_toArray, List.getElem_cons_zero, List.getElem_cons_succ, Act.put, List.setIfInBounds_toArray, List.set_cons_zero, List.set_cons_succ]
        refine wpAnyH_ready (rs := [10]) (by kernel_rfl) (by simp) ?_
        refine AllReadyH.cons rfl (fun K hK => ?_) AllReadyH.nil
        go_simp
        (go_at_call 84; refine HC.out.mono ?_; rintro e5 w5 ⟨ve, X2, rfl, hin2, hst5⟩; have z0 := HA0.out w5 w.heap.size (hst5.heapAt 6 rfl); have z1 : w5.cell? ⟨gt, i * 3, none⟩ = _ := TK.out _ _ (hst5.nth 4 rfl) 0 (by decide) _ rfl; have z2 := HCELL.out w5 hst5.bel; have HIN2 := Lib.hid hin2; have HST5 := Lib.hid hst5; clear hin2 hst5)
        refine hK.out _ _ ?_ (fun hHeld => ?_)
        · (try dsimp only); (first | exact ⟨y0, y1, y2⟩ | exact ⟨z0, z1, z2⟩)
        clear hK K
        try simp only [List.getElem_toArray, List.getElem_cons_zero, List.getElem_cons_succ, Act.put, List.setIfInBounds_toArray, List.set_cons_zero, List.set_cons_succ]
        refine wpAnyH_take (i := 11) (v := ?_) rfl (by kernel_rfl) (by kernel_rfl) (by kernel_rfl) (fun _ _ _ h => h) (Or.inl ⟨by rfl, ?_⟩) (by assumption) ?_
        rotate_left; focus (intro w hSw; (try dsimp only at hSw); go_simp; try (with_reducible rfl); done)
        try simp only [List.getElem_toArray, List.getElem_cons_zero, List.getElem_cons_succ, Act.put, List.setIfInBounds_toArray, List.set_cons_zero, List.set_cons_succ]
        refine wpAnyH_take (i := 12) (v := ?_) rfl (by kernel_rfl) (by kernel_rfl) (by kernel_rfl) (fun _ _ _ h => h) (Or.inl ⟨by rfl, ?_⟩) (by assumption) ?_
        rotate_left; focus (intro w hSw; (try dsimp only at hSw); go_simp; try (with_reducible rfl); done)
        try simp only [List.getElem_toArray, List.getElem_cons_zero, List.getElem_cons_succ, Act.put, List.setIfInBounds_toArray, List.set_cons_zero, List.set_cons_succ]
        refine wpAnyH_take (i := 13) (v := ?_) rfl (by kernel_rfl) (by kernel_rfl) (by kernel_rfl) (fun _ _ _ h => h) (Or.inl ⟨by rfl, ?_⟩) (by assumption) ?_
        rotate_left; focus (intro w hSw; (try dsimp only at hSw); go_simp; try (with_reducible rfl); done)
        try simp only [List.getElem_toArray, List.getElem_cons_zero, List.getElem_cons_succ, Act.put, List.setIfInBounds_toArray, List.set_cons_zero, List.set_cons_succ]
        refine wpAnyH_take (i := 14) (v := ?_) rfl (by kernel_rfl) (by kernel_rfl) (by kernel_rfl) (fun _ _ _ h => h) (Or.inl ⟨by rfl, ?_⟩) (by assumption) ?_
        rotate_left; focus (intro w hSw; (try dsimp only at hSw); go_simp; try (with_reducible rfl); done)
        try simp only [List.getElem_toArray, List.getElem_cons_zero, List.getElem_cons_succ, Act.put, List.setIfInBounds_toArray, List.set_cons_zero, List.set_cons_succ]
        refine wpAnyH_take (i := 15) (v := ?_) rfl (by kernel_rfl) (by kernel_rfl) (by kernel_rfl) (fun _ _ _ h => h) (Or.inl ⟨by rfl, ?_⟩) (by assumption) ?_
        rotate_left; focus (intro w hSw; (try dsimp only at hSw); go_simp; try (with_reducible rfl); done)
        try simp only [List.getElem_toArray, List.getElem_cons_zero, List.getElem_cons_succ, Act.put, List.setIfInBounds_toArray, List.set_cons_zero, List.set_cons_succ]
        refine wpAnyH_done (by kernel_rfl) ?_ _
        clear y0 y1 y2 z0 z1 z2 HSTX
        by_cases her : er = 0
        · subst her
          have hIN := HIN2.out (by first | trivial | rfl)
          have hle := HL.out.2.2.2.2
          have hoo := HOKJ.out
          have HSTO := Lib.hid (HST5.out.pick (ρ := aOwn 76 2 (.slice a n c) (out.map pairV) :: aOwn 76 2 ve (out2.map pairV) :: X2 :: aCel go 69 #[.slice a n c, .int .i64 0, .int .i64 0] :: aOwn 172 3 (.slice (some ⟨gt, 0, none⟩) L.length ct2) (L.map tokV) :: aCel (w.heap.size + 1) 69 #[.slice none 0 0, .int .i64 0, .int .i64 0] :: aCel w.heap.size 66 A :: []) [3, 1, 0, 2, 4, 5, 6] 7 rfl rfl)
          obtain ⟨x0, x1, x2⟩ := HSTO.out.at3 3 rfl
          have hl2 : out2.length ≤ 2001 := hoo.2.1
          have HLEN := Lib.hid (And.intro hl2 hle)
          have HEN := Lib.hid (Ws.evtsR HSTO.out 1 rfl (by omega))
          clear HST5 hoo hle hl2
          go_wp2_with (at_builtin; refine St.appSl evtE3 rfl (.tmp 66) (.tmp 67) rfl rfl HSTO.out (En := Enc.evt) (b2 := 16) rfl HEN.out rfl pairV (fun _ _ _ h => h) (fun a q hq => pair_one3 a q hq) (by have := HLEN.out; have := HLL.out; rw [List.length_map]; omega) (by have := HLEN.out; have := HLL.out; rw [List.length_map]; omega) ?_; intro v6 w6 hst6; obtain ⟨a6, n6, c6, rfl⟩ := Ws.shows (hst6.ownAt 0 rfl); have HST6 := Lib.hid hst6; obtain ⟨c0, c1, c2', f0, f1, f2⟩ := (hst6.nth 3 rfl).cel3; clear hst6)
          have HST7 := Lib.hid ((HST6.out.pick (ρ := aCel go 69 #[.slice a n c, .int .i64 0, .int .i64 0] :: aOwn 76 2 (.slice a6 n6 c6) (out.map pairV ++ out2.map pairV) :: aOwn 76 2 ve (out2.map pairV) :: X2 :: aOwn 172 3 (.slice (some ⟨gt, 0, none⟩) L.length ct2) (L.map tokV) :: aCel (w.heap.size + 1) 69 #[.slice none 0 0, .int .i64 0, .int .i64 0] :: aCel w.heap.size 66 A :: []) [3, 0, 1, 2, 4, 5, 6] 7 rfl rfl).setCel 0 (.slice a6 n6 c6))
          go_roundg (L.length - (i + 1))
          case measure => have := HGK.out; omega
          case rel =>
            refine ⟨i + 1, j + 1, st2, out ++ out2, X2, a6, n6, c6, by go_num, by omega, rfl, Lib.hid ⟨(HRUN.out.2.2 st out HNEG.out (by rw [hpr])).symm.trans HL.out.1 |> fun h => by rw [hpr] at h; exact h, ?_, by have := HL.out.2.2.1; omega, hIN, by rw [List.length_append]; have := HLEN.out; omega⟩, ?_⟩
            · exact HOKJ.out.1 (by first | trivial | rfl)
            · rw [List.map_append]
              exact HST7.out.pick [3, 0, 1, 4, 5, 6] 7 rfl rfl
        · have heb : (er != 0) = true := by rw [bne_iff_ne]; exact her
          have hw : Ws.whole P of (L, k) s.size ([0], 0) = (out, er, f) := by
            have h1 := (HRUN.out.2.1 st out HNEG.out (by rw [hpr]; exact her)).symm.trans HL.out.1
            rw [hpr] at h1
            unfold Ws.whole
            simp only
            rw [← h1]
          have HW := Lib.hid hw
          clear hw her HRUN HOKJ HIN2
          have HSTO := Lib.hid (HST5.out.pick (ρ := aCel (w.heap.size + 1) 69 #[.slice none 0 0, .int .i64 0, .int .i64 0] :: aCel go 69 #[.slice a n c, .int .i64 0, .int .i64 0] :: aOwn 76 2 (.slice a n c) (out.map pairV) :: aOwn 172 3 (.slice (some ⟨gt, 0, none⟩) L.length ct2) (L.map tokV) :: []) [5, 2, 3, 4] 7 rfl rfl)
          clear HST5
          have y0 := (HSTO.out.at3 1 rfl).1
          have y1 : w5.cell? ⟨gt, i * 3 + 1, none⟩ = _ := TK.out _ _ (HSTO.out.nth 3 rfl) 1 (by decide) _ rfl
          obtain ⟨x0, x1, x2, f0, f1, f2⟩ := HSTO.out.cel3
          have HSTW := Lib.hid (((HSTO.out.setCel 0 (.slice a n c)).setCel 1 (.int .i64 er)).setCel 2 (.int .i64 f))
          have y0b := (HSTW.out.at3 1 rfl).1
          have y1b : (((w5.setCell ⟨w.heap.size + 1, 0, none⟩ (.slice a n c)).setCell ⟨w.heap.size + 1, 1, none⟩ (.int .i64 er)).setCell ⟨w.heap.size + 1, 2, none⟩ (.int .i64 f)).cell? ⟨gt, i * 3 + 1, none⟩ = _ := TK.out _ _ (HSTW.out.nth 3 rfl) 1 (by decide) _ rfl
          go_wp2_with (fail)
          refine wp_region_held_drew (S := (fun w' => w'.cell? ⟨go, 0, none⟩ = some (.slice a n c) ∧ w'.cell? ⟨gt, i * 3 + 1, none⟩ = some (.int .i64 f))) (by kernel_rfl) ?_ (fun hHeld => ?_)
          · (try dsimp only); (first | exact ⟨y0, y1⟩ | exact ⟨y0b, y1b⟩)

          refine wpAnyH_take (i := 0) (v := ?_) rfl (by kernel_rfl) (by kernel_rfl) (by kernel_rfl) (fun _ _ _ h => h) (Or.inl ⟨by rfl, ?_⟩) (by assumption) ?_
          rotate_left; focus (intro w hSw; (try dsimp only at hSw); go_simp; try (with_reducible rfl); done)
          try simp only [List.getElem_toArray, List.getElem_cons_zero, List.getElem_cons_succ, Act.put, List.setIfInBounds_toArray, List.set_cons_zero, List.set_cons_succ]
          refine wpAnyH_take (i := 1) (v := ?_) rfl (by kernel_rfl) (by kernel_rfl) (by kernel_rfl) (fun _ _ _ h => h) (Or.inl ⟨by rfl, ?_⟩) (by assumption) ?_
          rotate_left; focus (intro w hSw; (try dsimp only at hSw); go_simp; try (with_reducible rfl); done)
          try simp only [List.getElem_toArray, List.getElem_cons_zero, List.getElem_cons_succ, Act.put, List.setIfInBounds_toArray, List.set_cons_zero, List.set_cons_succ]
          refine wpAnyH_take (i := 2) (v := ?_) rfl (by kernel_rfl) (by kernel_rfl) (by kernel_rfl) (fun _ _ _ h => h) (Or.inl ⟨by rfl, ?_⟩) (by assumption) ?_
          rotate_left; focus (intro w hSw; (try dsimp only at hSw); go_simp; try (with_reducible rfl); done)
          try simp only [List.getElem_toArray, List.getElem_cons_zero, List.getElem_cons_succ, Act.put, List.setIfInBounds_toArray, List.set_cons_zero, List.set_cons_succ]
          refine wpAnyH_take (i := 3) (v := ?_) rfl (by kernel_rfl) (by kernel_rfl) (by kernel_rfl) (fun _ _ _ h => h) (Or.inl ⟨by rfl, ?_⟩) (by assumption) ?_
          rotate_left; focus (intro w hSw; (try dsimp only at hSw); go_simp; try (with_reducible rfl); done)
          try simp only [List.getElem_toArray, List.getElem_cons_zero, List.getElem_cons_succ, Act.put, List.setIfInBounds_toArray, List.set_cons_zero, List.set_cons_succ]
          refine wpAnyH_take (i := 4) (v := ?_) rfl (by kernel_rfl) (by kernel_rfl) (by kernel_rfl) (fun _ _ _ h => h) (Or.inl ⟨by rfl, ?_⟩) (by assumption) ?_
          rotate_left; focus (intro w hSw; (try dsimp only at hSw); go_simp; try (with_reducible rfl); done)
          try simp only [List.getElem_toArray, List.getElem_cons_zero, List.getElem_cons_succ, Act.put, List.setIfInBounds_toArray, List.set_cons_zero, List.set_cons_succ]
          refine wpAnyH_take (i := 5) (v := ?_) rfl (by kernel_rfl) (by kernel_rfl) (by kernel_rfl) (fun _ _ _ h => h) (Or.inl ⟨by rfl, ?_⟩) (by assumption) ?_
          rotate_left; focus (intro w hSw; (try dsimp only at hSw); go_simp; try (with_reducible rfl); done)
          try simp only [List.getElem_toArray, List.getElem_cons_zero, List.getElem_cons_succ, Act.put, List.setIfInBounds_toArray, List.set_cons_zero, List.set_cons_succ]
          refine wpAnyH_take (i := 6) (v := ?_) rfl (by kernel_rfl) (by kernel_rfl) (by kernel_rfl) (fun _ _ _ h => h) (Or.inl ⟨by rfl, ?_⟩) (by assumption) ?_
          rotate_left; focus (intro w hSw; (try dsimp only at hSw); go_simp; try (with_reducible rfl); done)
          try simp only [List.getElem_toArray, List.getElem_cons_zero, List.getElem_cons_succ, Act.put, List.setIfInBounds_toArray, List.set_cons_zero, List.set_cons_succ]
          refine wpAnyH_take (i := 7) (v := ?_) rfl (by kernel_rfl) (by kernel_rfl) (by kernel_rfl) (fun _ _ _ h => h) (Or.inl ⟨by rfl, ?_⟩) (by assumption) ?_
          rotate_left; focus (intro w hSw; (try dsimp only at hSw); go_simp; try (with_reducible rfl); done)
          try simp only [List.getElem_toArray, List.getElem_cons_zero, List.getElem_cons_succ, Act.put, List.setIfInBounds_toArray, List.set_cons_zero, List.set_cons_succ]
          refine wpAnyH_take (i := 8) (v := ?_) rfl (by kernel_rfl) (by kernel_rfl) (by kernel_rfl) (fun _ _ _ h => h) (Or.inl ⟨by rfl, ?_⟩) (by assumption) ?_
          rotate_left; focus (intro w hSw; (try dsimp only at hSw); go_simp; try (with_reducible rfl); done)
          try simp only [List.getElem_toArray, List.getElem_cons_zero, List.getElem_cons_succ, Act.put, List.setIfInBounds_toArray, List.set_cons_zero, List.set_cons_succ]
          refine wpAnyH_ready (rs := [9]) (by kernel_rfl) (by simp) ?_
          refine AllReadyH.cons rfl (fun K hK => ?_) AllReadyH.nil
          go_simp
          refine hK.out _ _ ?_ (fun hHeld => ?_)
          · (try dsimp only); (first | exact ⟨y0, y1⟩ | exact ⟨y0b, y1b⟩)
          clear hK K
          try simp only [List.getElem_toArray, List.getElem_cons_zero, List.getElem_cons_succ, Act.put, List.setIfInBounds_toArray, List.set_cons_zero, List.set_cons_succ]
          refine wpAnyH_done (by kernel_rfl) ?_ _
          clear y0 y1 y0b y1b x0 x1 x2 f0 f1 f2
          have HST8 := Lib.hid HSTW.out.drew
          generalize World.drew _ = w8 at HST8 ⊢
          obtain ⟨d0, d1, d2, -, -, -⟩ := HST8.out.cel3
          go_wp2_with (fail)
          refine bodyPost_ret (Ws.resT1 rfl _ _ (w.heap.size + 1) rfl d0 d1 d2) rfl ?_
          rw [HW.out]
          exact ⟨_, rfl, HST8.out.pick [2] 4 rfl rfl⟩
    · have hil : i = L.length := by omega
      have hltI : decide ((i : Int) < (L.length : Int)) = false := decide_eq_false (by omega)
      have hltf : ¬ ((i : Int) < (L.length : Int)) := by omega
      have hrun := HL.out.1
      rw [Ws.run_nil (by omega)] at hrun
      have HRUN := Lib.hid hrun
      clear hlt hrun
      by_cases hk : 0 ≤ k
      · have hkd : decide (0 ≤ k) = true := decide_eq_true hk
        have hw : Ws.whole P of (L, k) s.size ([0], 0) = (out, 9, k) := by
          unfold Ws.whole
          simp only
          rw [← HRUN.out]
          simp only
          rw [if_pos hk]
        have HW := Lib.hid hw
        clear hw hil
        have HSTO := Lib.hid (HS0.out.pick (ρ := aCel (w.heap.size + 1) 69 #[.slice none 0 0, .int .i64 0, .int .i64 0] :: aCel go 69 #[.slice a n c, .int .i64 0, .int .i64 0] :: aOwn 76 2 (.slice a n c) (out.map pairV) :: []) [4, 1, 2] 6 rfl rfl)
        obtain ⟨x0, x1, x2, f0, f1, f2⟩ := HSTO.out.cel3
        obtain ⟨r0, r1, r2, h0, h1, h2⟩ := (HSTO.out.nth 1 rfl).cel3
        have HSTW := Lib.hid (((HSTO.out.setCel 0 (.slice a n c)).setCel 1 (.int .i64 9)).setCel 2 (.int .i64 k))
        go_wp2_with (fail)
        obtain ⟨d0, d1, d2, -, -, -⟩ := HSTW.out.cel3
        refine bodyPost_ret (Ws.resT1 rfl _ _ (w.heap.size + 1) rfl d0 d1 d2) rfl ?_
        rw [HW.out]
        exact ⟨_, rfl, HSTW.out.pick [2] 3 rfl rfl⟩
      · have hkd : decide (0 ≤ k) = false := decide_eq_false hk
        have hw : Ws.whole P of (L, k) s.size ([0], 0) = (out ++ (P.fin st).2, (P.fin st).1, (s.size : Int)) := by
          unfold Ws.whole
          simp only
          rw [← HRUN.out]
          simp only
          rw [if_neg hk]
        have HW := Lib.hid hw
        have hj5 : j ≤ 5000 := by have := HL.out.2.2.1; have := HLL.out; omega
        have hok2 := (HOK.out j st 0 HL.out.2.1 hj5 (by omega)).2.2
        clear hw hil
        have a9 := HA9.out wr w.heap.size (HS0.out.heapAt 5 rfl)
        have HSTX := Lib.hid (HS0.out.pick (ρ := X :: aCel go 69 #[.slice a n c, .int .i64 0, .int .i64 0] :: aOwn 76 2 (.slice a n c) (out.map pairV) :: aCel (w.heap.size + 1) 69 #[.slice none 0 0, .int .i64 0, .int .i64 0] :: []) [0, 1, 2, 4] 6 rfl rfl)
        have HC := HEND2.out w wr _ j st X HSTX.out.bel (Nat.le_refl _) HL.out.2.2.2.1 HL.out.2.1 hj5 HSTX.out
        replace HC := Lib.hid HC
        generalize P.fin st = pr at HC hok2 HW
        obtain ⟨er, out2⟩ := pr
        simp only at HC hok2 HW
        have hle := HL.out.2.2.2.2
        have HLEN := Lib.hid (And.intro hok2 hle)
        clear hok2 hle
        go_wp2_with (fail)
        go_at_call 84
        refine HC.out.mono ?_
        rintro e5 w5 ⟨ve, X2, rfl, hst5⟩
        have HST5 := Lib.hid hst5
        clear hst5 a9
        have HSTO := Lib.hid (HST5.out.pick (ρ := aOwn 76 2 (.slice a n c) (out.map pairV) :: aOwn 76 2 ve (out2.map pairV) :: aCel go 69 #[.slice a n c, .int .i64 0, .int .i64 0] :: aCel (w.heap.size + 1) 69 #[.slice none 0 0, .int .i64 0, .int .i64 0] :: []) [3, 1, 2, 4] 5 rfl rfl)
        obtain ⟨x0, x1, x2⟩ := HSTO.out.at3 2 rfl
        have HEN := Lib.hid (Ws.evtsR HSTO.out 1 rfl (by have := HLEN.out.1; omega))
        clear HST5 HSTX
        go_wp2_with (at_builtin; refine St.appSl evtE3 rfl (.tmp 85) (.tmp 86) rfl rfl HSTO.out (En := Enc.evt) (b2 := 16) rfl HEN.out rfl pairV (fun _ _ _ h => h) (fun a q hq => pair_one3 a q hq) (by have := HLEN.out; have := HLL.out; rw [List.length_map]; omega) (by have := HLEN.out; have := HLL.out; rw [List.length_map]; omega) ?_; intro v6 w6 hst6; obtain ⟨a6, n6, c6, rfl⟩ := Ws.shows (hst6.ownAt 0 rfl); have HST6 := Lib.hid hst6; obtain ⟨r0, r1, r2, h0, h1, h2⟩ := (hst6.nth 3 rfl).cel3; clear hst6)
        have HSTW := Lib.hid ((((HST6.out.pick (ρ := aCel (w.heap.size + 1) 69 #[.slice none 0 0, .int .i64 0, .int .i64 0] :: aOwn 76 2 (.slice a6 n6 c6) (out.map pairV ++ out2.map pairV) :: []) [3, 0] 4 rfl rfl).setCel 0 (.slice a6 n6 c6)).setCel 1 (.int .i64 er)).setCel 2 (.int .i64 (s.size : Int)))
        obtain ⟨d0, d1, d2, -, -, -⟩ := HSTW.out.cel3
        refine bodyPost_ret (Ws.resT1 rfl _ _ (w.heap.size + 1) rfl d0 d1 d2) rfl ?_
        rw [HW.out]
        refine ⟨_, rfl, ?_⟩
        rw [List.map_append]
        exact HSTW.out.drop
end Go.Proofs.Ytahoapgmiecphaa

/-
  RightMade of the reference: what it computes.
-/
namespace Go.Proofs.Ytahoapgmiecphaa
set_option linter.unusedVariables false
open Go.ChangeShapes Go.WideShapes Go.ChangeAt Go.RowKit

set_option maxRecDepth 100000 in
set_option maxHeartbeats 8000000 in
theorem rmade_any (A : Array Value) (m : Mk.Md) (v0 : Value) (Pc : Array Value) (vn vt vp vr va vg : Value) (w : World) (F : Nat → Prop) (hF : ∀ b, F b → b < w.heap.size) (h : MadeAt F w A m v0 Pc vn vt vp vr va vg) :
    Calls Try.prog 26 #[.agg A] w fun e w' => e = .returned (.int .i64 (Mk.err m)) ∧ Below w.heap.size w w' := by
  have hB : Below w.heap.size w (w.alloc (.cells A 66)) := (Below.refl _ _).alloc (Nat.le_refl _) _
  have hbx : MadeBox (w.alloc (.cells A 66)) w.heap.size m v0 Pc vt vp vr va vg := h.box (heap_alloc_new _ _)
  have hpz : (Try.prog.info? 61).map (fun x => x.size) = some Pc.toList.length := by rw [Array.length_toList, h.psize]; kernel_rfl
  have HC1 : Hid (∀ W', Below w.heap.size w W' → Calls Try.prog 78 #[.agg Pc] W' fun e w' => e = .returned (.int .i64 (Pkd.err m.2.1.1 m.2.1.2.1 m.2.1.2.2)) ∧ Below W'.heap.size W' w') := Lib.hid (fun W' hW => rpacked_any _ _ _ _ _ _ _ (h.packed.below hW))
  have HC2 : Hid (∀ W', Below w.heap.size w W' → Calls Try.prog 38 #[.agg #[.int .i64 m.2.2.1.1, .int .i64 m.2.2.1.2.1, vp]] W' fun e w' => e = .returned (.int .i64 (Gr.err m.2.2.1.1 m.2.2.1.2.1 m.2.2.1.2.2)) ∧ Below W'.heap.size W' w') :=
    Lib.hid (fun W' hW => rcfg_any _ _ _ _ _ F (fun b hb => Nat.lt_of_lt_of_le (hF b hb) hW.size) (Enc.mono _ h.prods (fun _ h => h) (fun b hb => hW.block b (hF b hb))))
  have HC3 : Hid (∀ W', Below w.heap.size w W' → Calls Try.prog 79 #[.agg #[.int .i64 m.2.2.1.1, .int .i64 m.2.2.1.2.1, vp], vr] W' fun e w' => e = .returned (.int .i64 (Rw.all m.2.2.1.1 m.2.2.1.2.1 m.2.2.1.2.2 m.2.2.2.2.1)) ∧ Below W'.heap.size W' w') :=
    Lib.hid (fun W' hW => rrows_any _ _ _ _ _ _ _ F (fun b hb => Nat.lt_of_lt_of_le (hF b hb) hW.size) (Enc.mono _ h.prods (fun _ h => h) (fun b hb => hW.block b (hF b hb))) (Enc.mono _ h.rows (fun _ h => h) (fun b hb => hW.block b (hF b hb))))
  have HC4 : Hid (∀ W', Below w.heap.size w W' → Calls Try.prog 80 #[.agg #[.int .i64 m.2.2.1.1, .int .i64 m.2.2.1.2.1, vp], .agg #[va, vg]] W' fun e w' => e = .returned (.int .i64 (Tb.all m.2.2.1.1 m.2.2.1.2.1 m.2.2.1.2.2 m.2.2.2.2.2.1 m.2.2.2.2.2.2)) ∧ Below W'.heap.size W' w') :=
    Lib.hid (fun W' hW => rtable_any _ _ _ _ _ _ _ _ _ F (fun b hb => Nat.lt_of_lt_of_le (hF b hb) hW.size) (Enc.mono _ h.prods (fun _ h => h) (fun b hb => hW.block b (hF b hb))) (Enc.mono _ h.acts (fun _ h => h) (fun b hb => hW.block b (hF b hb))) (Enc.mono _ h.gts (fun _ h => h) (fun b hb => hW.block b (hF b hb))))
  have ho := h.ofs; have htg := h.tags
  obtain ⟨of, ⟨pof, pnext, ptags⟩, ⟨t, n, l⟩, mode, rows, acts, gts⟩ := m
  have HPZ := Lib.hid hpz
  clear h hF hpz
  simp only at HC1 HC2 HC3 HC4 ho htg
  obtain ⟨ao, bo, oo, co, rfl, _, o3, o4⟩ := Enc.sl1 (En := Enc.int .i64) (Value.int .i64) (fun _ _ _ h => h.1) rfl 0 ho
  obtain ⟨ag, bg, og, cg, rfl, _, g3, g4⟩ := Enc.sl1 (En := Enc.int .i64) (Value.int .i64) (fun _ _ _ h => h.1) rfl 0 htg
  have O3 := Lib.hid o3; have O4 := Lib.hid o4; have G3 := Lib.hid g3; have G4 := Lib.hid g4
  clear ho htg o3 o4 g3 g4
  have HM : Hid (∀ q, q = Mk.err (of, (pof, pnext, ptags), (t, n, l), mode, rows, acts, gts) → q = Mk.err (of, (pof, pnext, ptags), (t, n, l), mode, rows, acts, gts)) := Lib.hid (fun _ h => h)
  generalize hr : Mk.err (of, (pof, pnext, ptags), (t, n, l), mode, rows, acts, gts) = R
  have HR := Lib.hid hr; clear hr HM
  rw [Mk.err] at HR
  simp only at HR
  generalize Pkd.err pof pnext ptags = E1 at HC1 HR
  generalize Gr.err t n l = E2 at HC2 HR
  generalize Rw.all t n l rows = E3 at HC3 HR
  generalize Tb.all t n l acts gts = E4 at HC4 HR
  have HBX := Lib.hid hbx
  have hpk := hbx.pk
  clear hbx
  have HB := Lib.hid hB
  go_enter Try.func26, Try.ntmps26
  go_wp2_with (refine wpList_load_mid rfl 61 (.tmp 6) rfl w.heap.size 1 rfl Pc.toList _ hpk Try.underlying61 rfl HPZ.out ?_)
  clear hpk
  go_at_call 78; refine (HC1.out _ hB).mono ?_; rintro e w1 ⟨rfl, hb1⟩
  have hB1 := hB.trans (hb1.mono hB.size)
  have hbx1 := HBX.out.below hb1 (by simp)
  by_cases e1 : E1 ≠ 0
  · have e1b : (E1 != 0) = true := by rw [bne_iff_ne]; exact e1
    have HE : Hid (E1 = R) := Lib.hid (by rw [← HR.out, if_pos e1])
    clear e1
    go_wp2_with (fail)
    go_ret
    exact ⟨by rw [← HE.out]; rfl, hB1⟩
  have e1' : E1 = 0 := Decidable.not_not.1 e1
  replace HR : Hid _ := Lib.hid (by have := HR.out; rw [if_neg e1] at this; exact this)
  subst e1'
  clear e1 hB hb1
  obtain ⟨hl, c0, cp, c258, c259, c260, c261, c262, c263, c264, c265⟩ := id hbx1
  have HBX1 := Lib.hid hbx1; clear hbx1
  simp only at c259 c260 c262
  clear cp
  go_wp2_with (fail)
  go_at_call 38; refine (HC2.out _ hB1).mono ?_; rintro e w2 ⟨rfl, hb2⟩
  have hB2 := hB1.trans (hb2.mono hB1.size)
  have hbx2 := HBX1.out.below hb2 hl
  clear hl c0 c258 c259 c260 c261 c262 c263 c264 c265 hb2
  obtain ⟨hl, c0, cp, c258, c259, c260, c261, c262, c263, c264, c265⟩ := id hbx2
  have HBX2 := Lib.hid hbx2; clear hbx2
  simp only at c259 c260 c262
  clear cp
  by_cases e2 : E2 ≠ 0 ∨ of.length = 0 ∨ 20 < of.length
  · have HE : Hid (1 = R) := Lib.hid (by rw [← HR.out, if_pos e2])
    by_cases e3 : E2 ≠ 0
    · have e3b : (E2 != 0) = true := by rw [bne_iff_ne]; exact e3
      clear e2 e3
      go_wp2
      go_ret
      exact ⟨by rw [← HE.out]; rfl, hB2⟩
    have e3b : (E2 != 0) = false := by rw [bne_eq_false_iff_eq]; omega
    by_cases e4 : of.length = 0
    · have e4b : (of.length : Int) < 1 := by omega
      clear e2 e3 e4
      go_wp2
      go_ret
      exact ⟨by rw [← HE.out]; rfl, hB2⟩
    have e5 : 20 < of.length := by omega
    have e4b : 1 ≤ of.length := by omega
    clear e2 e3 e4
    go_wp2
    go_ret
    exact ⟨by rw [← HE.out]; rfl, hB2⟩
  replace HR : Hid _ := Lib.hid (by have := HR.out; rw [if_neg e2] at this; exact this)
  have e3b : (E2 != 0) = false := by rw [bne_eq_false_iff_eq]; omega
  have e4b : 1 ≤ of.length := by omega
  have e5 : of.length ≤ 20 := by omega
  clear e2
  go_wp2
  have HB2 := Lib.hid hB2
  clear hl c0 c258 c259 c260 c261 c262 c263 c264 c265
  go_loopw [4] (fun i wr => ∃ k : Nat, k ≤ of.length ∧ i = .int .i64 k ∧ Below w2.heap.size w2 wr ∧ Hid (∀ j, j < k → -1 ≤ of.getD j 0 ∧ of.getD j 0 < t)) (fun i _ => of.length - (intOf i).toNat)
  case atStart => exact ⟨0, by omega, rfl, Below.refl _ _, Lib.hid (fun j hj => absurd hj (by omega))⟩
  case round =>
    obtain ⟨k, hk, rfl, hW, hok⟩ := hrel
    obtain ⟨hl, c0, cp, c258, c259, c260, c261, c262, c263, c264, c265⟩ := HBX2.out.below hW HBX2.out.lt
    simp only at c259 c260 c262
    clear cp
    have hBw := HB2.out.trans (hW.mono HB2.out.size)
    by_cases hlt : k < of.length
    · obtain ⟨rfl, hbo, _⟩ := O3.out (by omega)
      have hx1 := bkeep hBw (O4.out k hlt).1
      have hxw := wf64 (O4.out k hlt).2.2
      have HBAD : Hid (¬ (-1 ≤ of.getD k 0 ∧ of.getD k 0 < t) → 1 = R) := Lib.hid (fun g => by
        rw [← HR.out, if_pos (.inl (fun q => g (q k hlt)))])
      have HOK : Hid ((-1 ≤ of.getD k 0 ∧ of.getD k 0 < t) → ∀ j, j < k + 1 → -1 ≤ of.getD j 0 ∧ of.getD j 0 < t) := Lib.hid (fun h j hj => by
        rcases Nat.lt_succ_iff_lt_or_eq.1 hj with hj | rfl
        · exact hok.out j hj
        · exact h)
      generalize of.getD k 0 = y at hx1 hxw HBAD HOK
      by_cases y1 : y < -1
      · have HE := Lib.hid (HBAD.out (by omega))
        go_wp2
        go_quiet (fail)
        go_wp2
        go_ret
        exact ⟨by rw [← HE.out]; rfl, below_drewN hBw _⟩
      by_cases y2 : t ≤ y
      · have HE := Lib.hid (HBAD.out (by omega))
        go_wp2
        go_quiet (fail)
        go_wp2
        go_ret
        exact ⟨by rw [← HE.out]; rfl, below_drewN hBw _⟩
      have HX := Lib.hid (HOK.out (by omega))
      go_wp2
      go_quiet (fail)
      go_wp2
      go_roundw
      case rel => exact ⟨k + 1, by omega, by go_num, below_drewN hW _, HX⟩
      case measure => simp [intOf]; omega
    obtain rfl : k = of.length := by omega
    have HOF : Hid (Mk.ofGood t of) := Lib.hid hok.out
    go_wp2
    go_loopw [5] (fun i wr => ∃ k : Nat, k ≤ ptags.length ∧ i = .int .i64 k ∧ Below w2.heap.size w2 wr ∧ Hid (∀ j, j < k → ptags.getD j 0 < of.length)) (fun i _ => ptags.length - (intOf i).toNat)
    case atStart => exact ⟨0, by omega, rfl, hW, Lib.hid (fun j hj => absurd hj (by omega))⟩
    case round =>
      clear hW hl c0 c258 c259 c260 c261 c262 c263 c264 c265 hBw
      obtain ⟨k, hk, rfl, hW, hok⟩ := hrel
      obtain ⟨hl, c0, cp, c258, c259, c260, c261, c262, c263, c264, c265⟩ := HBX2.out.below hW HBX2.out.lt
      simp only at c259 c260 c262
      clear cp
      have hBw := HB2.out.trans (hW.mono HB2.out.size)
      by_cases hlt : k < ptags.length
      · obtain ⟨rfl, hbo, _⟩ := G3.out (by omega)
        have hx1 := bkeep hBw (G4.out k hlt).1
        have hxw := wf64 (G4.out k hlt).2.2
        have HBAD : Hid (¬ (ptags.getD k 0 < of.length) → 1 = R) := Lib.hid (fun g => by
          rw [← HR.out, if_pos (.inr (fun q => g (q k hlt)))])
        have HOK : Hid ((ptags.getD k 0 < of.length) → ∀ j, j < k + 1 → ptags.getD j 0 < of.length) := Lib.hid (fun h j hj => by
          rcases Nat.lt_succ_iff_lt_or_eq.1 hj with hj | rfl
          · exact hok.out j hj
          · exact h)
        generalize ptags.getD k 0 = y at hx1 hxw HBAD HOK
        by_cases y1 : (of.length : Int) ≤ y
        · have HE := Lib.hid (HBAD.out (by omega))
          go_wp2
          go_quiet (fail)
          go_wp2
          go_ret
          exact ⟨by rw [← HE.out]; rfl, below_drewN hBw _⟩
        have HX := Lib.hid (HOK.out (by omega))
        go_wp2
        go_quiet (fail)
        go_wp2
        go_roundw
        case rel => exact ⟨k + 1, by omega, by go_num, below_drewN hW _, HX⟩
        case measure => simp [intOf]; omega
      obtain rfl : k = ptags.length := by omega
      replace HR : Hid _ := Lib.hid (by
        have h1 := HR.out
        have h2 : Mk.tagsGood of.length ptags := hok.out
        rw [if_neg (fun q => q.elim (fun q => q HOF.out) (fun q => q h2))] at h1
        exact h1)
      by_cases m1 : mode = 1
      · have HE : Hid (E3 = R) := Lib.hid (by rw [← HR.out, if_pos m1])
        have m1b : (mode == 1) = true := by rw [beq_iff_eq]; exact m1
        clear m1
        go_wp2_with (fail)
        go_at_call 79; refine (HC3.out _ hBw).mono ?_; rintro e w3 ⟨rfl, hb3⟩
        go_wp2
        go_ret
        exact ⟨by rw [← HE.out]; rfl, hBw.trans (hb3.mono hBw.size)⟩
      have m1b : (mode == 1) = false := by rw [beq_eq_false_iff_ne]; exact m1
      by_cases m2 : mode = 2
      · have HE : Hid (E4 = R) := Lib.hid (by rw [← HR.out, if_neg m1, if_pos m2])
        have m2b : (mode == 2) = true := by rw [beq_iff_eq]; exact m2
        clear m1 m2
        go_wp2_with (fail)
        go_at_call 80; refine (HC4.out _ hBw).mono ?_; rintro e w3 ⟨rfl, hb3⟩
        go_wp2
        go_ret
        exact ⟨by rw [← HE.out]; rfl, hBw.trans (hb3.mono hBw.size)⟩
      have HE : Hid (1 = R) := Lib.hid (by rw [← HR.out, if_neg m1, if_neg m2])
      have m2b : (mode == 2) = false := by rw [beq_eq_false_iff_ne]; exact m2
      clear m1 m2
      go_wp2
      go_ret
      exact ⟨by rw [← HE.out]; rfl, hBw⟩
end Go.Proofs.Ytahoapgmiecphaa

/-
  The walk of the law WholeSays.
-/
namespace Go.Proofs.Ytahoapgmiecphaa
set_option linter.unusedVariables false
set_option linter.unusedSimpArgs false
open Go.ChangeShapes Go.WideShapes Go.ChangeAt Go.RowKit

namespace Ws
section
variable {σ : Type} {P : Par σ} {ok : Nat → σ → Prop} {t : Int} {of : List Int}
theorem run_len (hOK : ∀ (j : Nat) (st : σ) (c : Nat), ok j st → j ≤ 5000 → (c : Int) ≤ t → ((P.push st c).1 = 0 → ok (j + 1) (P.push st c).2.1) ∧ (P.push st c).2.2.length ≤ 2001 ∧ (P.fin st).2.length ≤ 2001) (hof : ∀ q : Nat, ((of.getD q 0).toNat : Int) ≤ t) :
    ∀ (L : List (Int × Int × Int)) (j : Nat) (st : σ) (out : List Ev), ok j st → j + L.length ≤ 5000 →
      (∀ r, run P of L st out = .inl r → r.1.length ≤ out.length + 2001 * L.length) ∧ (∀ s o, run P of L st out = .inr (s, o) → o.length ≤ out.length + 2001 * L.length ∧ ∃ j', ok j' s ∧ j' ≤ 5000) := by
  intro L
  induction L with
  | nil => intro j st out h hj; exact ⟨(fun r hr => by rw [run] at hr; cases hr), (fun s o hr => by rw [run] at hr; cases hr; exact ⟨by simp, j, h, by simpa using hj⟩)⟩
  | cons k L ih =>
    intro j st out h hj
    rw [List.length_cons] at hj ⊢
    rw [run]
    by_cases h1 : of.getD k.1.toNat 0 < 0
    · rw [if_pos h1]
      obtain ⟨i1, i2⟩ := ih j st out h (by omega)
      exact ⟨fun r hr => by have := i1 r hr; omega, fun s o hr => by obtain ⟨a, b⟩ := i2 s o hr; exact ⟨by omega, b⟩⟩
    · rw [if_neg h1]
      obtain ⟨o1, o2, -⟩ := hOK j st (of.getD k.1.toNat 0).toNat h (by omega) (hof _)
      by_cases h2 : (P.push st (of.getD k.1.toNat 0).toNat).1 ≠ 0
      · rw [if_pos h2]
        exact ⟨fun r hr => by cases hr; simp only; omega, fun s o hr => by cases hr⟩
      · rw [if_neg h2]
        obtain ⟨i1, i2⟩ := ih (j + 1) _ (out ++ (P.push st (of.getD k.1.toNat 0).toNat).2.2) (o1 (by omega)) (by omega)
        rw [List.length_append] at i1 i2
        exact ⟨fun r hr => by have := i1 r hr; omega, fun s o hr => by obtain ⟨a, b⟩ := i2 s o hr; exact ⟨by omega, b⟩⟩
theorem whole_len (hOK : ∀ (j : Nat) (st : σ) (c : Nat), ok j st → j ≤ 5000 → (c : Int) ≤ t → ((P.push st c).1 = 0 → ok (j + 1) (P.push st c).2.1) ∧ (P.push st c).2.2.length ≤ 2001 ∧ (P.fin st).2.length ≤ 2001) (hof : ∀ q : Nat, ((of.getD q 0).toNat : Int) ≤ t) (ht : 0 ≤ t)
    (x : List (Int × Int × Int) × Int) (z : Nat) (st : σ) (h : ok 0 st) (hx : x.1.length ≤ 2000) : (whole P of x z st).1.length ≤ 5000000 := by
  obtain ⟨i1, i2⟩ := run_len hOK hof x.1 0 st [] h (by omega)
  unfold whole
  split
  · rename_i r hr
    have := i1 r hr
    rw [List.length_nil] at this
    omega
  · rename_i s o hr
    obtain ⟨a, j', b, c⟩ := i2 s o hr
    rw [List.length_nil] at a
    have := (hOK j' s 0 b c (by omega)).2.2
    split
    · simp only; omega
    · simp only [List.length_append]; omega
end
/-- Both sides tell the same. -/
theorem both (A : Array Value) (m : Mk.Md) (s : ByteArray) (w : World) (h : Enc.made.R (fun b => b < w.heap.size) w A.toList m) (he : Mk.err m = 0) (hs : s.size ≤ 2000) :
    ∃ X : List Ev × Int × Int, X.1.length ≤ 5000000 ∧ (∀ W, Below w.heap.size w W → Calls Try.prog 25 #[.agg A, .string s] W (RetRun 0 X W)) ∧ (∀ W, Below w.heap.size w W → Calls Try.prog 27 #[.agg A, .string s] W (RetWhole X W)) := by
  obtain ⟨v0, Pc, vn, vt, vp, vr, va, vg, hm⟩ := made_cells h
  obtain ⟨z1, z2, z3, z4, z5, z6, z7⟩ := mk_zero he
  have hgr := Gr.err_zero z2
  have htt : ((m.2.2.1.1.toNat : Nat) : Int) = m.2.2.1.1 := by omega
  have hl := (toks_ok (of := m.2.1.1) (next := m.2.1.2.1) (tags := m.2.1.2.2) z3 z6 s.size s.size s.data.toList 0 [] (by omega) (by simp) (by simp) (fun x hx => by cases hx)).2
  have hof : ∀ q : Nat, ((m.1.getD q 0).toNat : Int) ≤ m.2.2.1.1 := fun q => by
    by_cases hq : q < m.1.length
    · have := z5 q hq; omega
    · rw [List.getD_eq_getElem?_getD, List.getElem?_eq_none (by omega)]; simp only [Option.getD_none]; omega
  rcases z7 with ⟨hmode, hall⟩ | ⟨hmode, hall⟩
  · exact ⟨_, whole_len (ok := okC m.2.2.1.1 m.2.2.1.2.1 m.2.2.1.2.2.length) (fun j st c hk hj hc => ⟨fun h0 => okC_push hk hall hc h0, okC_len hk⟩) hof hgr.1 _ _ _ (okC_begin hall) (by omega),
      fun W hW => wsRunC A m v0 Pc vn vt vp vr va vg s W (made_below hm hW) he hmode hall hs, fun W hW => wsWholeC A m v0 Pc vn vt vp vr va vg s W (made_below hm hW) he hmode hall hs⟩
  · exact ⟨_, whole_len (ok := okS m.2.2.2.2.2.1.length) (fun j st c hk hj hc => ⟨fun h0 => okS_push hk hj hall hc h0, okS_len hk hj hall (c := c) hc htt⟩) hof hgr.1 _ _ _ (okS_begin hall) (by omega),
      fun W hW => wsRunS A m v0 Pc vn vt vp vr va vg s W (made_below hm hW) he hmode hall hs, fun W hW => wsWholeS A m v0 Pc vn vt vp vr va vg s W (made_below hm hW) he hmode hall hs⟩
theorem evtsR2 {w0 w : World} {μ : List Asrt} {v : Value} {l : List Ev} (h : St w0 w μ) (i : Nat) (hA : μ[i]? = some (aOwn 76 2 v (l.map pairV))) (hl : l.length ≤ 5000000) : (Enc.evt.sl 16).R (fun b => b < w.heap.size) w [v] l :=
  Own.enc (En := Enc.evt) (bytes := 16) (f := pairV) (h.ownAt i hA) rfl (fun _ _ => rfl) (fun b hb => ((h.nth i hA).fpOwn b hb).2) (by omega)
end Ws

set_option maxRecDepth 100000 in
set_option maxHeartbeats 4000000 in
theorem wholeSays_walk (A : Array Value) (m : Mk.Md) (s : ByteArray) (w : World) (h : Enc.made.R (fun b => b < w.heap.size) w A.toList m) (hs : s.size ≤ 140737488355328) :
    Calls Try.prog 6 #[.agg A, .string s] w fun e w' => e = .returned (.bool true) ∧ Below w.heap.size w w' := by
  obtain ⟨v0, Pc, vn, vt, vp, vr, va, vg, hm⟩ := made_cells h
  have hsz : (Try.prog.info? 66).map (fun x => x.size) = some A.size := by rw [hm.size]; kernel_rfl
  have HS := Lib.hid hsz
  have HR := Lib.hid (fun W (hW : Below w.heap.size w W) => rmade_any A m v0 Pc vn vt vp vr va vg W (fun b => b < W.heap.size) (fun b h => h) (Ws.made_below hm hW))
  have hst := (St.init w).alloc A 66
  have HST := Lib.hid hst
  have HA := Lib.hid (hst.heapAt 0 rfl)
  have hb1 := Lib.hid (fun W (hW : Below w.heap.size w W) (he : Mk.err m ≠ 0) => wsRun_bad A m v0 Pc vn vt vp vr va vg s W (Ws.made_below hm hW) he)
  have hb2 := Lib.hid (fun W (hW : Below w.heap.size w W) (he : Mk.err m = 0) (hl : 2000 < s.size) => wsRun_long A m v0 Pc vn vt vp vr va vg s W (Ws.made_below hm hW) he hl)
  have hb3 := Lib.hid (fun (he : Mk.err m = 0) (hl : s.size ≤ 2000) => Ws.both A m s w h he hl)
  generalize Mk.err m = E at *
  clear hst hsz hm h
  by_cases he : E = 0
  · subst he
    by_cases hl : 2000 < s.size
    · have hlI : (2000 : Int) < (s.size : Int) := by omega
      have HRUN := Lib.hid (fun W hW => hb2.out W hW rfl hl)
      clear hb1 hb2 hb3
      go_enter Try.func6, Try.ntmps6
      go_wp2_with (refine wpList_load_row rfl 66 (.tmp 2) rfl w.heap.size rfl 66 A (0, 0) _ HA.out Try.underlying66 rfl HS.out ?_)
      go_at_call 25
      refine (HRUN.out _ HST.out.bel).mono ?_
      rintro e1 w1 ⟨v, rfl, hr1⟩
      obtain ⟨av, nv, cv, rfl⟩ := Ws.shows (hr1.ownAt 0 rfl)
      have HST1 := Lib.hid ((HST.out.joined hr1).alloc #[.slice av nv cv, .int .i64 0, .int .i64 0] 69)
      have HA1 := Lib.hid (HST1.out.heapAt 2 rfl)
      clear hr1
      go_wp2_with (refine wpList_load_row rfl 66 (.tmp 2) rfl w.heap.size rfl 66 A (0, 0) _ HA1.out Try.underlying66 rfl HS.out ?_)
      go_at_call 26
      refine (HR.out _ HST1.out.bel).mono ?_
      rintro e2 w2 ⟨rfl, hb2⟩
      have HST2 := Lib.hid ((HST1.out.call hb2).alloc #[.slice none 0 0, .int .i64 0, .int .i64 0] 69)
      have c := (HST1.out.call hb2).at3 0 rfl
      obtain ⟨c0, c1, c2⟩ := c
      have glt := World.block_lt_of_cell? _ _ c0
      simp only at glt
      have HE1 := Lib.hid (Ws.evtsR2 (l := []) HST2.out 2 rfl (by simp))
      have HE2 := Lib.hid (Ws.evtsR2 (l := []) (HST2.out.nilOwn 76 2) 0 rfl (by simp))
      have HBEL := Lib.hid HST2.out.bel
      clear hb2
      go_wp2_with (go_at_call 28; refine (eqEvtsF _ HE1.out HE2.out).mono ?_; rintro e w3 ⟨rfl, hb3⟩; obtain ⟨d0, d1, d2⟩ := (HST2.out.call hb3).at3 0 rfl; obtain ⟨x0, x1, x2⟩ := (HST2.out.call hb3).at3 1 rfl; have HB3 := Lib.hid ((HST2.out.call hb3).bel); clear hb3)
      go_ret
      exact ⟨rfl, HB3.out⟩
    · have hlI : ¬ ((2000 : Int) < (s.size : Int)) := by omega
      have hlD : decide ((2000 : Int) < (s.size : Int)) = false := decide_eq_false hlI
      obtain ⟨⟨ev, ov, at0⟩, hX, hrun, hwhole⟩ := hb3.out rfl (by omega)
      simp only at hX
      have HRUN := Lib.hid hrun; have HWH := Lib.hid hwhole; have HX := Lib.hid hX
      clear hb1 hb2 hb3 hrun hwhole hX
      go_enter Try.func6, Try.ntmps6
      go_wp2_with (refine wpList_load_row rfl 66 (.tmp 2) rfl w.heap.size rfl 66 A (0, 0) _ HA.out Try.underlying66 rfl HS.out ?_)
      go_at_call 25
      refine (HRUN.out _ HST.out.bel).mono ?_
      rintro e1 w1 ⟨v, rfl, hr1⟩
      obtain ⟨av, nv, cv, rfl⟩ := Ws.shows (hr1.ownAt 0 rfl)
      have HST1 := Lib.hid ((HST.out.joined hr1).alloc #[.slice av nv cv, .int .i64 ov, .int .i64 at0] 69)
      have HA1 := Lib.hid (HST1.out.heapAt 2 rfl)
      clear hr1
      go_wp2_with (refine wpList_load_row rfl 66 (.tmp 2) rfl w.heap.size rfl 66 A (0, 0) _ HA1.out Try.underlying66 rfl HS.out ?_)
      go_at_call 26
      refine (HR.out _ HST1.out.bel).mono ?_
      rintro e2 w2 ⟨rfl, hb2⟩
      have HST2 := Lib.hid ((HST1.out.call hb2).alloc #[.slice none 0 0, .int .i64 0, .int .i64 0] 69)
      have HA2 := Lib.hid (HST2.out.heapAt 3 rfl)
      have glt1 := ((HST1.out.call hb2).nth 0 rfl).lo _ (.head _) _ (.head _)
      clear hb2
      go_wp2_with (refine wpList_load_row rfl 66 (.tmp 2) rfl w.heap.size rfl 66 A (0, 0) _ HA2.out Try.underlying66 rfl HS.out ?_)
      go_at_call 27
      refine (HWH.out _ HST2.out.bel).mono ?_
      rintro e3 w3 ⟨v2, rfl, hr3⟩
      obtain ⟨av2, nv2, cv2, rfl⟩ := Ws.shows (hr3.ownAt 0 rfl)
      have hj := HST2.out.joined hr3
      have HST3 := Lib.hid (hj.pick (ρ := aCel w2.heap.size 69 #[.slice none 0 0, .int .i64 0, .int .i64 0] :: aOwn 76 2 (.slice av2 nv2 cv2) (ev.map pairV) :: aCel w1.heap.size 69 #[.slice av nv cv, .int .i64 ov, .int .i64 at0] :: aOwn 76 2 (.slice av nv cv) (ev.map pairV) :: []) [1, 0, 2, 3] 5 rfl rfl)
      clear hr3 hj
      have HST4 := Lib.hid (((HST3.out.setCel 0 (.slice av2 nv2 cv2)).setCel 1 (.int .i64 ov)).setCel 2 (.int .i64 at0))
      obtain ⟨q0, q1, q2, f0, f1, f2⟩ := HST3.out.cel3
      obtain ⟨p0, p1, p2⟩ := HST3.out.at3 2 rfl
      have hne : ¬ w2.heap.size = w1.heap.size ∧ ¬ w1.heap.size = w2.heap.size := by omega
      obtain ⟨hne1, hne2⟩ := hne
      have HE1 := Lib.hid (Ws.evtsR2 (l := ev) HST4.out 3 rfl HX.out)
      have HE2 := Lib.hid (Ws.evtsR2 (l := ev) HST4.out 1 rfl HX.out)
      go_wp2_with (go_at_call 28; refine (eqEvtsF _ HE1.out HE2.out).mono ?_; rintro e w5 ⟨rfl, hb5⟩; obtain ⟨d0, d1, d2⟩ := (HST4.out.call hb5).at3 0 rfl; obtain ⟨x0, x1, x2⟩ := (HST4.out.call hb5).at3 2 rfl; have HB3 := Lib.hid ((HST4.out.call hb5).bel); clear hb5)
      go_ret
      exact ⟨rfl, HB3.out⟩
  · have HRUN := Lib.hid (fun W hW => hb1.out W hW he)
    have heb : (E == 0) = false := by rw [beq_eq_false_iff_ne]; exact he
    clear hb1 hb2 hb3
    go_enter Try.func6, Try.ntmps6
    go_wp2_with (refine wpList_load_row rfl 66 (.tmp 2) rfl w.heap.size rfl 66 A (0, 0) _ HA.out Try.underlying66 rfl HS.out ?_)
    go_at_call 25
    refine (HRUN.out _ HST.out.bel).mono ?_
    rintro e1 w1 ⟨v, rfl, hr1⟩
    obtain ⟨av, nv, cv, rfl⟩ := Ws.shows (hr1.ownAt 0 rfl)
    have HST1 := Lib.hid ((HST.out.joined hr1).alloc #[.slice av nv cv, .int .i64 0, .int .i64 0] 69)
    have HA1 := Lib.hid (HST1.out.heapAt 2 rfl)
    clear hr1
    go_wp2_with (refine wpList_load_row rfl 66 (.tmp 2) rfl w.heap.size rfl 66 A (0, 0) _ HA1.out Try.underlying66 rfl HS.out ?_)
    go_at_call 26
    refine (HR.out _ HST1.out.bel).mono ?_
    rintro e2 w2 ⟨rfl, hb2⟩
    have HST2 := Lib.hid ((HST1.out.call hb2).alloc #[.slice none 0 0, .int .i64 0, .int .i64 0] 69)
    have c := (HST1.out.call hb2).at3 0 rfl
    obtain ⟨c0, c1, c2⟩ := c
    have glt := World.block_lt_of_cell? _ _ c0
    simp only at glt
    have HE1 := Lib.hid (Ws.evtsR2 (l := []) HST2.out 2 rfl (by simp))
    have HE2 := Lib.hid (Ws.evtsR2 (l := []) (HST2.out.nilOwn 76 2) 0 rfl (by simp))
    clear hb2
    go_wp2_with (go_at_call 28; refine (eqEvtsF _ HE1.out HE2.out).mono ?_; rintro e w3 ⟨rfl, hb3⟩; obtain ⟨d0, d1, d2⟩ := (HST2.out.call hb3).at3 0 rfl; obtain ⟨x0, x1, x2⟩ := (HST2.out.call hb3).at3 1 rfl; have HB3 := Lib.hid ((HST2.out.call hb3).bel); clear hb3)
    go_ret
    exact ⟨rfl, HB3.out⟩
end Go.Proofs.Ytahoapgmiecphaa
