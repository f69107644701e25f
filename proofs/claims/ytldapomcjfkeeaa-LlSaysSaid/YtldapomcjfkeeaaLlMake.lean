/-
  Make of package ll.
-/
import Derived.Test.YtldapomcjfkeeaaLlBit
import Derived.Test.YtldapomcjfkeeaaFcBegin
namespace Go.Proofs.Ytldapomcjfkeeaa
set_option linter.unusedVariables false
set_option linter.unusedSimpArgs false
open Go.ChangeShapes Go.WideShapes Go.ChangeAt Go.RowKit

namespace Ll
/-- Rows and clashes, made by a call. -/
def aRow (x : SV × List Int) : Asrt := aOwn 3 1 (slV x.1) (x.2.map iV)
theorem clE : ET Try.prog 132 141 4 32 := ET.mk' Try.underlying132 (z := .agg #[.int .i64 0, .int .i64 0, .int .i64 0, .int .i64 0]) (by kernel_rfl) rfl (by decide)
theorem clV_one (c : C4) : ∀ q ∈ (clV c).cells.toList, q.oneCell' = true := by
  intro q hq
  simp [clV, Value.cells] at hq
  rcases hq with rfl | rfl | rfl | rfl <;> rfl
end Ll
def RetLl (l : List Fc.Pr) (T N : Nat) (w : World) (e : Ending) (w' : World) : Prop := ∃ (E : List Bool) (Fs W : List Nat) (Rc M : List Bool) (vr vc : Value) (q : List (Ll.SV × List Int)), e = .returned (.tuple #[vr, vc, .int .i64 0]) ∧ Hid (Fc.Good l N E Fs W Rc M) ∧ Hid (q.map Prod.snd = Ll.rowsK l (Ll.mays E Fs W l) T N) ∧
  St w w' [aOwn 35 1 vr ((q.map Prod.fst).map Ll.slV), aAll (q.map Ll.aRow), aOwn 141 4 vc ((Ll.allK l (Ll.mays E Fs W l) T N).map Ll.clV)]

set_option maxRecDepth 100000 in
set_option maxHeartbeats 1600000 in
theorem llMake_bad (t n : Int) (vp : Value) (l : List Fc.Pr) (w : World) (F : Nat → Prop) (hF : ∀ b, F b → b < w.heap.size) (h : Enc.prods.R F w [vp] l) (he : Gr.err t n l ≠ 0) :
    Calls Try.prog 66 #[.agg #[.int .i64 t, .int .i64 n, vp]] w fun e w' => e = .returned (.tuple #[.slice none 0 0, .slice none 0 0, .int .i64 (Gr.err t n l)]) ∧ Below w.heap.size w w' := by
  have HC := Lib.hid (fun (w' : World) (hb : Below w.heap.size w w') => fcOf_bad t n vp l w' F (fun b hb' => Nat.lt_of_lt_of_le (hF b hb') hb.size) (Enc.prods.mono h (fun _ h => h) (fun b hb' => hb.block b (hF b hb'))) he)
  have hne : ((Gr.err t n l : Int) != 0) = true := by rw [bne_iff_ne]; exact he
  obtain ⟨E, hE⟩ : ∃ E, Gr.err t n l = E := ⟨_, rfl⟩
  rw [hE] at HC hne ⊢
  clear h hF he hE
  go_enter Try.func66, Try.ntmps66
  go_wp2_with (fail)
  go_at_call 42
  refine (HC.out _ ((Below.refl _ _).alloc (Nat.le_refl _) _)).mono ?_
  rintro e w1 ⟨rfl, hb1⟩
  have hst := ((St.init w).alloc #[.int .i64 t, .int .i64 n, vp] 68).call hb1
  have HST := Lib.hid hst
  clear hst hb1 HC
  go_wp2
  exact bodyPost_ret (v := .tuple #[.slice none 0 0, .slice none 0 0, .int .i64 E]) (by simp [results, Try.results66, go_sem]) rfl ⟨rfl, (HST.out.skip _).bel⟩

set_option maxRecDepth 100000 in
set_option maxHeartbeats 1000000 in
theorem llMake_ok (t n : Int) (vp : Value) (l : List Fc.Pr) (w : World) (F : Nat → Prop) (hF : ∀ b, F b → b < w.heap.size) (h : Enc.prods.R F w [vp] l) (he : Gr.err t n l = 0) :
    Calls Try.prog 66 #[.agg #[.int .i64 t, .int .i64 n, vp]] w (RetLl l t.toNat n.toNat w) := by
  have HO := Lib.hid (fun (w' : World) (hb : Below w.heap.size w w') => fcOf_ok t n vp l w' F (fun b hb' => Nat.lt_of_lt_of_le (hF b hb') hb.size) (Enc.prods.mono h (fun _ h => h) (fun b hb' => hb.block b (hF b hb'))) he)
  have HB := Lib.hid (fun (w' : World) (hb : Below w.heap.size w w') (vb : Value) (body : List (Int × Int)) (behind : Nat) (hbd : (Enc.two.sl 16).R F w [vb] body) (hbh : behind < 2 ^ 64) (hR : (decide (body.length ≤ 60) && body.all (Gr.right t n)) = true) => fcBeg_ok t n vp vb l behind body w' F (fun b hb' => Nat.lt_of_lt_of_le (hF b hb') hb.size) (Enc.prods.mono h (fun _ h => h) (fun b hb' => hb.block b (hF b hb'))) (Enc.mono _ hbd (fun _ h => h) (fun b hb' => hb.block b (hF b hb'))) he hbh true hR)
  have hok := Fc.okP_of he
  obtain ⟨z1, z2, z3, z4, hl40, hz6⟩ := Gr.err_zero he
  obtain ⟨N, rfl⟩ := Int.eq_ofNat_of_zero_le (show 0 ≤ n by omega)
  obtain ⟨T, rfl⟩ := Int.eq_ofNat_of_zero_le z1
  rw [Int.toNat_natCast] at HO hok
  rw [Int.toNat_natCast, Int.toNat_natCast]
  obtain ⟨ap, bp, op, cp, rfl, -, p3, p4⟩ := slProds h
  have P3 := Lib.hid p3; have P4 := Lib.hid p4
  have HP := Lib.hid h; have HOK := Lib.hid hok; have HF := Lib.hid hF; have HZ6 := Lib.hid hz6; have HL40 := Lib.hid hl40
  have hN20 : (N : Int) ≤ 20 := z4
  have hN1 : (1 : Int) ≤ N := z3
  have hT30 : (T : Int) ≤ 30 := z2
  have hl40i : (l.length : Int) ≤ 40 := by omega
  clear h hF he hok hl40 hz6 p3 p4 z1 z2 z3 z4
  have HST := Lib.hid ((St.init w).alloc #[.int .i64 T, .int .i64 N, .slice ap l.length cp] 68)
  go_enter Try.func66, Try.ntmps66
  go_wp2_with (fail)
  go_at_call 42
  refine (HO.out _ HST.out.bel).mono ?_
  rintro e w1 ⟨gE, gF, gW, gR, gM, E, Fs, W, Rc, M, rfl, HG, hst1⟩
  have HST := Lib.hid ((HST.out.join hst1).alloc #[.slice (some ⟨gE, 0, none⟩) N N, .slice (some ⟨gF, 0, none⟩) N N, .slice (some ⟨gW, 0, none⟩) N N, .slice (some ⟨gR, 0, none⟩) N N, .slice (some ⟨gM, 0, none⟩) N N] 88)
  have l1 := World.block_lt_of_cell? _ _ (HST.out.at3 6 rfl).1
  obtain ⟨g0, g1, g2⟩ := HST.out.at3 6 rfl
  clear hst1 HO
  obtain ⟨m, hm⟩ : ∃ m, Ll.mays E Fs W l = m := ⟨_, rfl⟩
  have hml : m.length = l.length := by rw [← hm, Ll.mays_len]
  have hmb := Ll.mays_lt HG.out HOK.out
  rw [hm] at hmb
  have HM := Lib.hid hm; have HML := Lib.hid hml; have HMB := Lib.hid hmb
  clear hm hml hmb
  go_wp2_with (refine St.make rfl (.tmp 27) rfl Try.underlying86 (z := .int .u64 0) (bytes := 8) (by kernel_rfl) rfl HST.out l.length rfl (by omega) (by decide) ?_; intro gm wm hstm; clear HST g0 g1 g2 l1; obtain ⟨g0, g1, g2⟩ := hstm.at3 7 rfl)
  generalize w1.heap.size = gB at *
  have hst2 : St w wm [Fc.aU (.slice (some ⟨gm, 0, none⟩) l.length l.length) (List.replicate l.length 0), aCel gB 88 #[.slice (some ⟨gE, 0, none⟩) N N, .slice (some ⟨gF, 0, none⟩) N N, .slice (some ⟨gW, 0, none⟩) N N, .slice (some ⟨gR, 0, none⟩) N N, .slice (some ⟨gM, 0, none⟩) N N], Fc.aB (.slice (some ⟨gE, 0, none⟩) N N) E, Fc.aU (.slice (some ⟨gF, 0, none⟩) N N) Fs, Fc.aU (.slice (some ⟨gW, 0, none⟩) N N) W, Fc.aB (.slice (some ⟨gR, 0, none⟩) N N) Rc, Fc.aB (.slice (some ⟨gM, 0, none⟩) N N) M, aCel w.heap.size 68 #[.int .i64 T, .int .i64 N, .slice ap l.length cp]] := by
    have e : Fc.aU (.slice (some ⟨gm, 0, none⟩) l.length l.length) (List.replicate l.length 0) = aOwn 85 1 (.slice (some ⟨gm, 0, none⟩) l.length l.length) (List.replicate l.length (.int .u64 0)) := by unfold Fc.aU; rw [List.map_replicate]; rfl
    rw [e]; exact hstm
  have HST := Lib.hid hst2
  clear hstm hst2 g0 g1 g2
  go_loopg [32] l.length (fun gk v wr => ∃ (k : Nat) (Mi : List Nat), k ≤ l.length ∧ gk = l.length - k ∧ v = .int .i64 k ∧ Hid (Mi.length = l.length ∧ ∀ j, j < k → Mi.getD j 0 = m.getD j 0) ∧ St w wr [Fc.aU (.slice (some ⟨gm, 0, none⟩) l.length l.length) Mi, aCel gB 88 #[.slice (some ⟨gE, 0, none⟩) N N, .slice (some ⟨gF, 0, none⟩) N N, .slice (some ⟨gW, 0, none⟩) N N, .slice (some ⟨gR, 0, none⟩) N N, .slice (some ⟨gM, 0, none⟩) N N], Fc.aB (.slice (some ⟨gE, 0, none⟩) N N) E, Fc.aU (.slice (some ⟨gF, 0, none⟩) N N) Fs, Fc.aU (.slice (some ⟨gW, 0, none⟩) N N) W, Fc.aB (.slice (some ⟨gR, 0, none⟩) N N) Rc, Fc.aB (.slice (some ⟨gM, 0, none⟩) N N) M, aCel w.heap.size 68 #[.int .i64 T, .int .i64 N, .slice ap l.length cp]])
  case atStart => exact ⟨0, _, by omega, by omega, rfl, Lib.hid ⟨by simp, fun j hj => absurd hj (by omega)⟩, HST.out⟩
  case round =>
    clear HST
    obtain ⟨k, Mi, hk, hgk, rfl, HMI, hst⟩ := hrel
    have HGK := Lib.hid hgk
    clear hgk
    by_cases hlt : k < l.length
    · obtain ⟨rfl, _, _⟩ := P3.out (by omega)
      obtain ⟨vb, s1, s2, hbody, -⟩ := P4.out k hlt
      have hmem : l.getD k (0, []) ∈ l := by rw [show l.getD k (0, []) = l[k] by simp [List.getD, List.getElem?_eq_getElem hlt]]; exact List.getElem_mem hlt
      have hokp := HOK.out _ hmem
      have hz6 := HZ6.out _ hmem
      have hmg := Ll.mays_get (E := E) (F := Fs) (W := W) hlt
      rw [HM.out] at hmg
      generalize l.getD k (0, []) = p at *
      obtain ⟨h0, body⟩ := p
      simp only at s1 s2 hbody hmg hz6
      obtain ⟨hp0, hp1, -⟩ := hokp
      simp only at hp0 hp1
      obtain ⟨h, rfl⟩ := Int.eq_ofNat_of_zero_le hp0
      rw [Int.toNat_natCast] at hmg
      have hlt2 : (k : Int) < l.length := by omega
      have s1 := bkeep hst.bel s1
      have s2 := bkeep hst.bel s2
      have hR : (decide (body.length ≤ 60) && body.all (Gr.right (T : Int) (N : Int))) = true := by
        rw [Bool.and_eq_true, decide_eq_true_eq, List.all_eq_true]
        exact ⟨by have := hz6.1; omega, hz6.2.2.2⟩
      have hhW : h < W.length := by rw [HG.out.w]; omega
      have hWb := HG.out.wb h
      have hhn : (h : Int) < N := by omega
      have HBEG := Lib.hid fun W' (hb : Below w.heap.size w W') => HB.out W' hb vb body (W.getD h 0) hbody hWb hR
      obtain ⟨ab, bb, ob, cb, rfl, -, -, -⟩ := slTwo hbody
      have HST := Lib.hid (hst.alloc #[.int .i64 h, .slice ab body.length cb] 186)
      have hbel := HST.out.drew.bel
      have hBb := Fc.Good.s HG.out
      obtain ⟨bg, hbg⟩ : ∃ bg, Fc.beg E Fs (W.getD h 0) body = bg := ⟨_, rfl⟩
      rw [hbg] at hmg
      have HBG := Lib.hid hbg; have HMG := Lib.hid hmg
      have hkm : k < Mi.length := by rw [HMI.out.1]; exact hlt
      have HW2 := Lib.hid fun (W0 : World) (hs : St w W0 [Fc.aU (.slice (some ⟨gW, 0, none⟩) N N) W]) => (show W0.cell? ⟨gW, h, none⟩ = some (.int .u64 ((W.getD h 0 : Nat) : Int)) from ((show St w W0 [aOwn 85 1 (.slice (some ⟨gW, 0, none⟩) N N) (W.map Fc.uV)] from hs).cellOwn (f := Fc.uV) (fun _ => rfl) h hhW 0).1)
      have HMC := Lib.hid fun (W0 : World) (hs : St w W0 (aCel wr.heap.size 186 #[.int .i64 h, .slice ab body.length cb] :: [Fc.aU (.slice (some ⟨gm, 0, none⟩) l.length l.length) Mi, aCel gB 88 #[.slice (some ⟨gE, 0, none⟩) N N, .slice (some ⟨gF, 0, none⟩) N N, .slice (some ⟨gW, 0, none⟩) N N, .slice (some ⟨gR, 0, none⟩) N N, .slice (some ⟨gM, 0, none⟩) N N], Fc.aB (.slice (some ⟨gE, 0, none⟩) N N) E, Fc.aU (.slice (some ⟨gF, 0, none⟩) N N) Fs, Fc.aU (.slice (some ⟨gW, 0, none⟩) N N) W, Fc.aB (.slice (some ⟨gR, 0, none⟩) N N) Rc, Fc.aB (.slice (some ⟨gM, 0, none⟩) N N) M, aCel w.heap.size 68 #[.int .i64 T, .int .i64 N, .slice (some ⟨bp, op, none⟩) l.length cp]])) => (show W0.cell? ⟨gm, k, none⟩ = some (.int .u64 ((Mi.getD k 0 : Nat) : Int)) ∧ W0.frozen? ⟨gm, k, none⟩ = false from (show St w W0 (aOwn 85 1 (.slice (some ⟨gm, 0, none⟩) l.length l.length) (Mi.map Fc.uV) :: _) from hs.nth 1 rfl).cellOwn (f := Fc.uV) (fun _ => rfl) k hkm 0)
      have HMS := Lib.hid fun (W0 : World) (hs : St w W0 (aCel wr.heap.size 186 #[.int .i64 h, .slice ab body.length cb] :: [Fc.aU (.slice (some ⟨gm, 0, none⟩) l.length l.length) Mi, aCel gB 88 #[.slice (some ⟨gE, 0, none⟩) N N, .slice (some ⟨gF, 0, none⟩) N N, .slice (some ⟨gW, 0, none⟩) N N, .slice (some ⟨gR, 0, none⟩) N N, .slice (some ⟨gM, 0, none⟩) N N], Fc.aB (.slice (some ⟨gE, 0, none⟩) N N) E, Fc.aU (.slice (some ⟨gF, 0, none⟩) N N) Fs, Fc.aU (.slice (some ⟨gW, 0, none⟩) N N) W, Fc.aB (.slice (some ⟨gR, 0, none⟩) N N) Rc, Fc.aB (.slice (some ⟨gM, 0, none⟩) N N) M, aCel w.heap.size 68 #[.int .i64 T, .int .i64 N, .slice (some ⟨bp, op, none⟩) l.length cp]])) => (show St w (W0.setCell ⟨gm, k, none⟩ (.int .u64 (bg : Int))) (Fc.aU (.slice (some ⟨gm, 0, none⟩) l.length l.length) (Mi.set k bg) :: aCel wr.heap.size 186 #[.int .i64 h, .slice ab body.length cb] :: [aCel gB 88 #[.slice (some ⟨gE, 0, none⟩) N N, .slice (some ⟨gF, 0, none⟩) N N, .slice (some ⟨gW, 0, none⟩) N N, .slice (some ⟨gR, 0, none⟩) N N, .slice (some ⟨gM, 0, none⟩) N N], Fc.aB (.slice (some ⟨gE, 0, none⟩) N N) E, Fc.aU (.slice (some ⟨gF, 0, none⟩) N N) Fs, Fc.aU (.slice (some ⟨gW, 0, none⟩) N N) W, Fc.aB (.slice (some ⟨gR, 0, none⟩) N N) Rc, Fc.aB (.slice (some ⟨gM, 0, none⟩) N N) M, aCel w.heap.size 68 #[.int .i64 T, .int .i64 N, .slice (some ⟨bp, op, none⟩) l.length cp]]) from (show St w W0 (aOwn 85 1 (.slice (some ⟨gm, 0, none⟩) l.length l.length) (Mi.map Fc.uV) :: _) from hs.pick [1, 0, 2, 3, 4, 5, 6, 7, 8] 9 rfl rfl).setOwn (f := Fc.uV) (fun _ => rfl) k bg)
      generalize Mi.getD k 0 = mv at HMC
      have hst3 := (hst.alloc #[.int .i64 h, .slice ab body.length cb] 186).drew
      obtain ⟨g0, g1, g2⟩ := hst3.at3 8 rfl
      obtain ⟨p0, p1⟩ := hst3.at2 0 rfl
      have x2 := (hst3.nth 2 rfl).celAt (i := 2) rfl
      have hW2 : World.cell? _ ⟨gW, h, none⟩ = some (.int .u64 ((W.getD h 0 : Nat) : Int)) := ((show St w _ (aOwn 85 1 (.slice (some ⟨gW, 0, none⟩) N N) (W.map Fc.uV) :: _) from hst3.nth 5 rfl).cellOwn (f := Fc.uV) (fun _ => rfl) h hhW 0).1
      generalize W.getD h 0 = wv at *
      have HST3 := Lib.hid hst3
      clear hst hst3 hmg hbg hbel hBb hR hhW hWb hp0 hz6 hmem hbody HST
      go_wp2
      refine wp_region_held_drew (S := (fun w' => w'.cell? ⟨w.heap.size, 0, none⟩ = some (.int .i64 T) ∧ w'.cell? ⟨w.heap.size, 1, none⟩ = some (.int .i64 N) ∧ w'.cell? ⟨w.heap.size, 2, none⟩ = some (.slice (some ⟨bp, op, none⟩) l.length cp) ∧ w'.cell? ⟨wr.heap.size, 0, none⟩ = some (.int .i64 h) ∧ w'.cell? ⟨wr.heap.size, 1, none⟩ = some (.slice ab body.length cb) ∧ w'.cell? ⟨gB, 2, none⟩ = some (.slice (some ⟨gW, 0, none⟩) N N) ∧ w'.cell? ⟨gW, h, none⟩ = some (.int .u64 wv))) (by kernel_rfl) ?_ (fun hHeld => ?_)
      · (try dsimp only); (first | exact ⟨g0, g1, g2, p0, p1, x2, hW2⟩ | exact ⟨a0, a1, a2, b0, b1, y2, hW3⟩ | go_keep)

      refine wpAnyH_take (i := 0) (v := ?_) rfl (by kernel_rfl) (by kernel_rfl) (by kernel_rfl) (fun _ _ _ h => h) (Or.inl ⟨by rfl, ?_⟩) (by assumption) ?_
      rotate_left; focus (intro w hSw; (try dsimp only at hSw); go_simp; try (with_reducible rfl); done)
      try simp only [List.getElem_toArray, List.getElem_cons_zero, List.getElem_cons_succ, Act.put, List.setIfInBounds_toArray, List.set_cons_zero, List.set_cons_succ]
      refine wpAnyH_take (i := 1) (v := ?_) rfl (by kernel_rfl) (by kernel_rfl) (by kernel_rfl) (fun _ _ _ h => h) (Or.inl ⟨by rfl, ?_⟩) (by assumption) ?_
      rotate_left; focus (intro w hSw; (try dsimp only at hSw); go_simp; try (with_reducible rfl); done)
      try simp only [List.getElem_toArray, List.getElem_cons_zero, List.getElem_cons_succ, Act.put, List.setIfInBounds_toArray, List.set_cons_zero, List.set_cons_succ]
      refine wpAnyH_take (i := 2) (v := ?_) rfl (by kernel_rfl) (by kernel_rfl) (by kernel_rfl) (fun _ _ _ h => h) (Or.inl ⟨by rfl, ?_⟩) (by assumption) ?_
      rotate_left; focus (intro w hSw; (try dsimp only at hSw); go_simp; try (with_reducible rfl); done)
      try simp only [List.getElem_toArray, List.getElem_cons_zero, List.getElem_cons_succ, Act.put, List.setIfInBounds_toArray, List.set_cons_zero, List.set_cons_succ]
      refine wpAnyH_take (i := 3) (v := ?_) rfl (by kernel_rfl) (by kernel_rfl) (by kernel_rfl) (fun _ _ _ h => h) (Or.inl ⟨by rfl, ?_⟩) (by assumption) ?_
      rotate_left; focus (intro w hSw; (try dsimp only at hSw); go_simp; try (with_reducible rfl); done)
      try simp only [List.getElem_toArray, List.getElem_cons_zero, List.getElem_cons_succ, Act.put, List.setIfInBounds_toArray, List.set_cons_zero, List.set_cons_succ]
      refine wpAnyH_take (i := 4) (v := ?_) rfl (by kernel_rfl) (by kernel_rfl) (by kernel_rfl) (fun _ _ _ h => h) (Or.inl ⟨by rfl, ?_⟩) (by assumption) ?_
      rotate_left; focus (intro w hSw; (try dsimp only at hSw); go_simp; try (with_reducible rfl); done)
      try simp only [List.getElem_toArray, List.getElem_cons_zero, List.getElem_cons_succ, Act.put, List.setIfInBounds_toArray, List.set_cons_zero, List.set_cons_succ]
      refine wpAnyH_take (i := 5) (v := ?_) rfl (by kernel_rfl) (by kernel_rfl) (by kernel_rfl) (fun _ _ _ h => h) (Or.inl ⟨by rfl, ?_⟩) (by assumption) ?_
      rotate_left; focus (intro w hSw; (try dsimp only at hSw); go_simp; try (with_reducible rfl); done)
      try simp only [List.getElem_toArray, List.getElem_cons_zero, List.getElem_cons_succ, Act.put, List.setIfInBounds_toArray, List.set_cons_zero, List.set_cons_succ]
      refine wpAnyH_take (i := 6) (v := ?_) rfl (by kernel_rfl) (by kernel_rfl) (by kernel_rfl) (fun _ _ _ h => h) (Or.inl ⟨by rfl, ?_⟩) (by assumption) ?_
      rotate_left; focus (intro w hSw; (try dsimp only at hSw); go_simp; try (with_reducible rfl); done)
      try simp only [List.getElem_toArray, List.getElem_cons_zero, List.getElem_cons_succ, Act.put, List.setIfInBounds_toArray, List.set_cons_zero, List.set_cons_succ]
      refine wpAnyH_take (i := 7) (v := ?_) rfl (by kernel_rfl) (by kernel_rfl) (by kernel_rfl) (fun _ _ _ h => h) (Or.inl ⟨by rfl, ?_⟩) (by assumption) ?_
      rotate_left; focus (intro w hSw; (try dsimp only at hSw); go_simp; try (with_reducible rfl); done)
      try simp only [List.getElem_toArray, List.getElem_cons_zero, List.getElem_cons_succ, Act.put, List.setIfInBounds_toArray, List.set_cons_zero, List.set_cons_succ]
      refine wpAnyH_take (i := 8) (v := ?_) rfl (by kernel_rfl) (by kernel_rfl) (by kernel_rfl) (fun _ _ _ h => h) (Or.inl ⟨by rfl, ?_⟩) (by assumption) ?_
      rotate_left; focus (intro w hSw; (try dsimp only at hSw); go_simp; try (with_reducible rfl); done)
      try simp only [List.getElem_toArray, List.getElem_cons_zero, List.getElem_cons_succ, Act.put, List.setIfInBounds_toArray, List.set_cons_zero, List.set_cons_succ]
      refine wpAnyH_take (i := 9) (v := ?_) rfl (by kernel_rfl) (by kernel_rfl) (by kernel_rfl) (fun _ _ _ h => h) (Or.inl ⟨by rfl, ?_⟩) (by assumption) ?_
      rotate_left; focus (intro w hSw; (try dsimp only at hSw); go_simp; try (with_reducible rfl); done)
      try simp only [List.getElem_toArray, List.getElem_cons_zero, List.getElem_cons_succ, Act.put, List.setIfInBounds_toArray, List.set_cons_zero, List.set_cons_succ]
      refine wpAnyH_take (i := 10) (v := ?_) rfl (by kernel_rfl) (by kernel_rfl) (by kernel_rfl) (fun _ _ _ h => h) (Or.inl ⟨by rfl, ?_⟩) (by assumption) ?_
      rotate_left; focus (intro w hSw; (try dsimp only at hSw); go_simp; try (with_reducible rfl); done)
      try simp only [List.getElem_toArray, List.getElem_cons_zero, List.getElem_cons_succ, Act.put, List.setIfInBounds_toArray, List.set_cons_zero, List.set_cons_succ]
      refine wpAnyH_ready (rs := [11]) (by kernel_rfl) (by simp) ?_
      refine AllReadyH.cons rfl (fun K hK => ?_) AllReadyH.nil
      go_simp
      (go_at_call 43; refine (HBEG.out _ HST3.out.bel).mono ?_; rintro e w8 ⟨hyes, -, hb8⟩; obtain ⟨E', F', W', R', M', rfl, hg⟩ := hyes rfl; obtain ⟨rfl, rfl, -, -, -⟩ := hg.s.one HG.out.s; rw [HBG.out]; have hst8 := HST3.out.call hb8; obtain ⟨g0, g1, g2⟩ := hst8.at3 8 rfl; obtain ⟨p0, p1⟩ := hst8.at2 0 rfl; have x2 := (hst8.nth 2 rfl).celAt (i := 2) rfl; have hW2 := HW2.out _ (hst8.nth 5 rfl); obtain ⟨m1, m2⟩ := HMC.out _ hst8; have hst9 := HMS.out _ hst8; obtain ⟨a0, a1, a2⟩ := hst9.at3 8 rfl; obtain ⟨b0, b1⟩ := hst9.at2 1 rfl; have y2 := (hst9.nth 2 rfl).celAt (i := 2) rfl; have hW3 := HW2.out _ (hst9.nth 5 rfl); have HST9 := Lib.hid hst9; clear hst8 hst9 hb8 hyes hg)
      refine hK.out _ _ ?_ (fun hHeld => ?_)
      · (try dsimp only); (first | exact ⟨g0, g1, g2, p0, p1, x2, hW2⟩ | exact ⟨a0, a1, a2, b0, b1, y2, hW3⟩ | go_keep)
      clear hK K
      try simp only [List.getElem_toArray, List.getElem_cons_zero, List.getElem_cons_succ, Act.put, List.setIfInBounds_toArray, List.set_cons_zero, List.set_cons_succ]
      refine wpAnyH_take (i := 12) (v := ?_) rfl (by kernel_rfl) (by kernel_rfl) (by kernel_rfl) (fun _ _ _ h => h) (Or.inl ⟨by rfl, ?_⟩) (by assumption) ?_
      rotate_left; focus (intro w hSw; (try dsimp only at hSw); go_simp; try (with_reducible rfl); done)
      try simp only [List.getElem_toArray, List.getElem_cons_zero, List.getElem_cons_succ, Act.put, List.setIfInBounds_toArray, List.set_cons_zero, List.set_cons_succ]
      refine wpAnyH_take (i := 13) (v := ?_) rfl (by kernel_rfl) (by kernel_rfl) (by kernel_rfl) (fun _ _ _ h => h) (Or.inl ⟨by rfl, ?_⟩) (by assumption) ?_
      rotate_left; focus (intro w hSw; (try dsimp only at hSw); go_simp; try (with_reducible rfl); done)
      try simp only [List.getElem_toArray, List.getElem_cons_zero, List.getElem_cons_succ, Act.put, List.setIfInBounds_toArray, List.set_cons_zero, List.set_cons_succ]
      refine wpAnyH_take (i := 14) (v := ?_) rfl (by kernel_rfl) (by kernel_rfl) (by kernel_rfl) (fun _ _ _ h => h) (Or.inl ⟨by rfl, ?_⟩) (by assumption) ?_
      rotate_left; focus (intro w hSw; (try dsimp only at hSw); go_simp; try (with_reducible rfl); done)
      try simp only [List.getElem_toArray, List.getElem_cons_zero, List.getElem_cons_succ, Act.put, List.setIfInBounds_toArray, List.set_cons_zero, List.set_cons_succ]
      refine wpAnyH_take (i := 15) (v := ?_) rfl (by kernel_rfl) (by kernel_rfl) (by kernel_rfl) (fun _ _ _ h => h) (Or.inl ⟨by rfl, ?_⟩) (by assumption) ?_
      rotate_left; focus (intro w hSw; (try dsimp only at hSw); go_simp; try (with_reducible rfl); done)
      try simp only [List.getElem_toArray, List.getElem_cons_zero, List.getElem_cons_succ, Act.put, List.setIfInBounds_toArray, List.set_cons_zero, List.set_cons_succ]
      refine wpAnyH_ready (rs := [16]) (by kernel_rfl) (by simp) ?_
      refine AllReadyH.cons rfl (fun K hK => ?_) AllReadyH.nil
      go_simp
      refine hK.out _ _ ?_ (fun hHeld => ?_)
      · (try dsimp only); (first | exact ⟨g0, g1, g2, p0, p1, x2, hW2⟩ | exact ⟨a0, a1, a2, b0, b1, y2, hW3⟩ | go_keep)
      clear hK K
      try simp only [List.getElem_toArray, List.getElem_cons_zero, List.getElem_cons_succ, Act.put, List.setIfInBounds_toArray, List.set_cons_zero, List.set_cons_succ]
      refine wpAnyH_done (by kernel_rfl) ?_ _
      clear g0 g1 g2 p0 p1 x2 hW2 a0 a1 a2 b0 b1 y2 hW3 m1 m2 HST3 HW2 HMC HMS HBEG
      go_wp2
      go_roundg (l.length - (k + 1))
      case measure => have := HGK.out; omega
      case rel =>
        refine ⟨k + 1, Mi.set k bg, by omega, rfl, by go_num, Lib.hid ⟨by rw [List.length_set]; exact HMI.out.1, fun j hj => ?_⟩, HST9.out.pick [0, 2, 3, 4, 5, 6, 7, 8] 9 rfl rfl⟩
        by_cases e : k = j
        · subst e
          rw [HMG.out, List.getD_eq_getElem?_getD, List.getElem?_set_self hkm]; rfl
        · rw [List.getD_eq_getElem?_getD, List.getElem?_set_ne e, ← List.getD_eq_getElem?_getD]
          exact HMI.out.2 j (by omega)
    · obtain rfl : l.length = k := by omega
      have hMm : Mi = m := by
        apply List.ext_getElem (by rw [HMI.out.1, HML.out])
        intro j h1 h2
        have := HMI.out.2 j (by have := HMI.out.1; omega)
        simpa [List.getD, List.getElem?_eq_getElem h1, List.getElem?_eq_getElem h2] using this
      obtain rfl : m = Mi := hMm.symm
      have HST := Lib.hid (hst.pick [0, 7] 8 rfl rfl)
      obtain ⟨g0, g1, g2⟩ := HST.out.at3 1 rfl
      clear hst HMI HGK
      go_wp2_with (refine St.make rfl (.tmp 55) rfl Try.underlying45 (z := .slice none 0 0) (bytes := 24) (by kernel_rfl) rfl HST.out N rfl (by omega) (by decide) ?_; intro gr wn hstn; clear HST g0 g1 g2; obtain ⟨g0, g1, g2⟩ := hstn.at3 2 rfl)
      have hst4 : St w wn [aOwn 35 1 (.slice (some ⟨gr, 0, none⟩) N N) (((([] : List (Ll.SV × List Int)).map Prod.fst) ++ List.replicate N (none, 0, 0)).map Ll.slV), Fc.aU (.slice (some ⟨gm, 0, none⟩) l.length l.length) m, aCel w.heap.size 68 #[.int .i64 T, .int .i64 N, .slice ap l.length cp]] := by
        have e : ((([] : List (Ll.SV × List Int)).map Prod.fst) ++ List.replicate N ((none, 0, 0) : Ll.SV)).map Ll.slV = List.replicate N (.slice none 0 0) := by simp [Ll.slV]
        rw [e]; exact hstn
      have HST := Lib.hid ((hst4.nilAll.nilOwn 141 4).pick [2, 1, 0, 3, 4] 5 rfl rfl)
      clear hstn hst4
      rename World => wv
      go_wp2
      clear g0 g1 g2
      go_loopg [11, 59] N (fun gk v11 v59 wr => ∃ (n : Nat) (vc : Value) (q : List (Ll.SV × List Int)), n ≤ N ∧ gk = N - n ∧ v59 = .int .i64 n ∧ vc = v11 ∧ Hid (q.map Prod.snd = Ll.rowsK l m T n) ∧ St w wr [aOwn 35 1 (.slice (some ⟨gr, 0, none⟩) N N) ((q.map Prod.fst ++ List.replicate (N - n) (none, 0, 0)).map Ll.slV), aAll (q.map Ll.aRow), aOwn 141 4 vc ((Ll.allK l m T n).map Ll.clV), Fc.aU (.slice (some ⟨gm, 0, none⟩) l.length l.length) m, aCel w.heap.size 68 #[.int .i64 T, .int .i64 N, .slice ap l.length cp]])
      case atStart => exact ⟨0, _, [], by omega, by omega, rfl, rfl, Lib.hid (by rw [Ll.rowsK_zero]; rfl), by rw [Ll.allK_zero]; exact HST.out⟩
      case round =>
        clear HST
        obtain ⟨n, vc, q, hn, hgk, rfl, rfl, HQ, hst⟩ := hrel
        have HGK := Lib.hid hgk
        clear hgk
        obtain ⟨g0, g1, g2⟩ := hst.at3 4 rfl
        by_cases hlt : n < N
        · have hlt2 : (n : Int) < N := by omega
          have HQL : Hid (q.length = n) := Lib.hid (by have := congrArg List.length HQ.out; rw [List.length_map, Ll.rowsK_len] at this; exact this)
          have e1 : List.replicate (N - n) ((none, 0, 0) : Ll.SV) = (none, 0, 0) :: List.replicate (N - n - 1) (none, 0, 0) := by
            obtain ⟨d, hd⟩ : ∃ d, N - n = d + 1 := ⟨N - n - 1, by omega⟩
            rw [hd, List.replicate_succ]; rfl
          rw [e1] at hst
          have HST := Lib.hid ((hst.nilOwn 3 1).pick [3, 1, 0, 2, 4, 5] 6 rfl rfl)
          clear hst e1
          go_wp2
          clear g0 g1 g2
          have hW65 : (T : Int) + 1 ≤ 31 := by omega
          go_loopg [11, 65] (T + 1) (fun gk3 v11 v65 wr3 => ∃ (col : Nat) (vc : Value) (s : Ll.SV), col ≤ T + 1 ∧ gk3 = T + 1 - col ∧ v65 = .int .i64 col ∧ vc = v11 ∧ St w wr3 [aOwn 141 4 vc ((Ll.allK l m T n ++ Ll.clK l m T n col).map Ll.clV), aOwn 35 1 (.slice (some ⟨gr, 0, none⟩) N N) ((q.map Prod.fst ++ s :: List.replicate (N - n - 1) (none, 0, 0)).map Ll.slV), aOwn 3 1 (Ll.slV s) ((Ll.rowK l m T n col).map Ll.iV), aAll (q.map Ll.aRow), Fc.aU (.slice (some ⟨gm, 0, none⟩) l.length l.length) m, aCel w.heap.size 68 #[.int .i64 T, .int .i64 N, .slice ap l.length cp]])
          case atStart => exact ⟨0, _, (none, 0, 0), by omega, by omega, rfl, rfl, by rw [Ll.clK_zero, Ll.rowK_zero, List.append_nil]; exact HST.out⟩
          case round =>
            clear HST
            obtain ⟨col, vc, s, hcol, hgk, rfl, rfl, hst⟩ := hrel
            have HGK3 := Lib.hid hgk
            clear hgk
            obtain ⟨g0, g1, g2⟩ := hst.at3 5 rfl
            by_cases hlc : col ≤ T
            · have hlc2 : (col : Int) < (T : Int) + 1 := by omega
              have HST := Lib.hid hst
              clear hst
              rename World => wy
              go_wp2
              clear g0 g1 g2
              go_loopg [11, 14, 71] l.length (fun gk4 v11 v14 v71 wr4 => ∃ (k : Nat) (vc : Value), k ≤ l.length ∧ gk4 = l.length - k ∧ v71 = .int .i64 k ∧ v14 = .int .i64 (Ll.atOf (Ll.candK l m T n col k)) ∧ vc = v11 ∧ St w wr4 [aOwn 141 4 vc ((Ll.allK l m T n ++ Ll.clK l m T n col ++ Ll.clOf n col (Ll.candK l m T n col k)).map Ll.clV), aOwn 35 1 (.slice (some ⟨gr, 0, none⟩) N N) ((q.map Prod.fst ++ s :: List.replicate (N - n - 1) (none, 0, 0)).map Ll.slV), aOwn 3 1 (Ll.slV s) ((Ll.rowK l m T n col).map Ll.iV), aAll (q.map Ll.aRow), Fc.aU (.slice (some ⟨gm, 0, none⟩) l.length l.length) m, aCel w.heap.size 68 #[.int .i64 T, .int .i64 N, .slice ap l.length cp]])
              case atStart => exact ⟨0, _, by omega, by omega, rfl, by rw [Ll.candK_zero]; rfl, rfl, by rw [Ll.candK_zero, show Ll.clOf n col [] = [] from rfl, List.append_nil]; exact HST.out⟩
              case round =>
                clear HST
                obtain ⟨k, vc, hk, hgk, rfl, rfl, rfl, hst⟩ := hrel
                have HGK4 := Lib.hid hgk
                clear hgk
                by_cases hlk : k < l.length
                · have hlk2 : (k : Int) < l.length := by omega
                  obtain ⟨rfl, _, _⟩ := P3.out (by omega)
                  obtain ⟨vb, s1, s2, hbody, -⟩ := P4.out k hlk
                  have hmem : l.getD k (0, []) ∈ l := by rw [show l.getD k (0, []) = l[k] by simp [List.getD, List.getElem?_eq_getElem hlk]]; exact List.getElem_mem hlk
                  have hokp := HOK.out _ hmem
                  have hic := Ll.isC_def (l := l) (m := m) (t := T) (n := n) (col := col) (i := k)
                  have hsm := Ll.out_small (m := m) (n := n) (col := col) HL40.out (show T ≤ 30 by omega) (show N ≤ 20 by omega) hlt hlc hk
                  generalize l.getD k (0, []) = p at *
                  obtain ⟨h0, body⟩ := p
                  obtain ⟨hp0, hp1, -⟩ := hokp
                  simp only at s1 s2 hic hp0 hp1
                  obtain ⟨h, rfl⟩ := Int.eq_ofNat_of_zero_le hp0
                  obtain ⟨ab, bb, ob, cb, rfl, -, -, -⟩ := slTwo hbody
                  have s1 := bkeep hst.bel s1
                  have s2 := bkeep hst.bel s2
                  have hst2 := hst.alloc #[.int .i64 h, .slice ab body.length cb] 186
                  have HSTD := Lib.hid hst2.drew
                  have HST := Lib.hid hst2
                  have hkm : k < m.length := by rw [HML.out]; exact hlk
                  obtain ⟨p0, p1⟩ := hst2.drew.at2 0 rfl
                  obtain ⟨g0, g1, g2⟩ := hst2.drew.at3 6 rfl
                  have HMC := Lib.hid fun (W0 : World) (hs : St w W0 [Fc.aU (.slice (some ⟨gm, 0, none⟩) l.length l.length) m]) => (show W0.cell? ⟨gm, k, none⟩ = some (.int .u64 ((m.getD k 0 : Nat) : Int)) from ((show St w W0 (aOwn 85 1 (.slice (some ⟨gm, 0, none⟩) l.length l.length) (m.map Fc.uV) :: _) from hs).cellOwn (f := Fc.uV) (fun _ => rfl) k hkm 0).1)
                  have m1 := HMC.out _ (hst2.drew.nth 5 rfl)
                  have hmb := HMB.out k
                  clear hbody hmem hst hst2 hp0 hkm
                  obtain ⟨c, hc⟩ : ∃ c, Ll.candK l m T n col k = c := ⟨_, rfl⟩
                  rw [hc] at HST HSTD hsm
                  have HC := Lib.hid hc
                  by_cases hhn : h = n
                  · subst hhn
                    rw [decide_eq_true rfl, Bool.true_and] at hic
                    have hne : ((h : Int) != (h : Int)) = false := by rw [bne_eq_false_iff_eq]
                    obtain ⟨B, hB⟩ : ∃ B, (m.getD k 0).testBit (Ll.colbit T col) = B := ⟨_, rfl⟩
                    have hab := Ll.and_bit (m := m.getD k 0) (k := Ll.colbit T col)
                    have hcb : Ll.colbit T col < 64 := by unfold Ll.colbit; split <;> omega
                    have hpow : 2 ^ Ll.colbit T col < 18446744073709551616 := Nat.pow_lt_pow_right (a := 2) (m := Ll.colbit T col) (n := 64) (by decide) hcb
                    have hbo := bits_and_u64_nat (m.getD k 0) (2 ^ Ll.colbit T col) hmb hpow
                    have HBT := Lib.hid fun W0 => llBit_any T N (.slice (some ⟨bp, op, none⟩) l.length cp) T col rfl (by omega) hlc W0
                    rw [hB] at hab hic
                    generalize 2 ^ Ll.colbit T col = bv at *
                    generalize m.getD k 0 = mv at *
                    have hz : (bits .and .u64 (mv : Int) (bv : Int) == 0) = !B := by
                      rw [hbo, ← hab]
                      by_cases e : mv &&& bv = 0
                      · rw [e]; simp
                      · rw [decide_eq_false e, beq_eq_false_iff_ne]; omega
                    have HIC := Lib.hid hic
                    clear hic hab hcb hpow hbo hmb hB hc
                    cases B
                    all_goals
                      simp only [Bool.not_true, Bool.not_false] at hz
                      go_wp2
                      refine wp_region_held_drew (S := (fun w' => w'.cell? ⟨w.heap.size, 0, none⟩ = some (.int .i64 T) ∧ w'.cell? ⟨w.heap.size, 1, none⟩ = some (.int .i64 N) ∧ w'.cell? ⟨w.heap.size, 2, none⟩ = some (.slice (some ⟨bp, op, none⟩) l.length cp) ∧ w'.cell? ⟨wr.heap.size, 0, none⟩ = some (.int .i64 h) ∧ w'.cell? ⟨gm, k, none⟩ = some (.int .u64 mv))) (by kernel_rfl) ?_ (fun hHeld => ?_)
                      · (try dsimp only); (first | exact ⟨g0, g1, g2, p0, m1⟩ | go_keep)

                      refine wpAnyH_take (i := 0) (v := ?_) rfl (by kernel_rfl) (by kernel_rfl) (by kernel_rfl) (fun _ _ _ h => h) (Or.inl ⟨by rfl, ?_⟩) (by assumption) ?_
                      rotate_left; focus (intro w hSw; (try dsimp only at hSw); go_simp; try (with_reducible rfl); done)
                      try simp only [List.getElem_toArray, List.getElem_cons_zero, List.getElem_cons_succ, Act.put, List.setIfInBounds_toArray, List.set_cons_zero, List.set_cons_succ]
                      refine wpAnyH_take (i := 1) (v := ?_) rfl (by kernel_rfl) (by kernel_rfl) (by kernel_rfl) (fun _ _ _ h => h) (Or.inl ⟨by rfl, ?_⟩) (by assumption) ?_
                      rotate_left; focus (intro w hSw; (try dsimp only at hSw); go_simp; try (with_reducible rfl); done)
                      try simp only [List.getElem_toArray, List.getElem_cons_zero, List.getElem_cons_succ, Act.put, List.setIfInBounds_toArray, List.set_cons_zero, List.set_cons_succ]
                      refine wpAnyH_take (i := 2) (v := ?_) rfl (by kernel_rfl) (by kernel_rfl) (by kernel_rfl) (fun _ _ _ h => h) (Or.inl ⟨by rfl, ?_⟩) (by assumption) ?_
                      rotate_left; focus (intro w hSw; (try dsimp only at hSw); go_simp; try (with_reducible rfl); done)
                      try simp only [List.getElem_toArray, List.getElem_cons_zero, List.getElem_cons_succ, Act.put, List.setIfInBounds_toArray, List.set_cons_zero, List.set_cons_succ]
                      refine wpAnyH_take (i := 3) (v := ?_) rfl (by kernel_rfl) (by kernel_rfl) (by kernel_rfl) (fun _ _ _ h => h) (Or.inl ⟨by rfl, ?_⟩) (by assumption) ?_
                      rotate_left; focus (intro w hSw; (try dsimp only at hSw); go_simp; try (with_reducible rfl); done)
                      try simp only [List.getElem_toArray, List.getElem_cons_zero, List.getElem_cons_succ, Act.put, List.setIfInBounds_toArray, List.set_cons_zero, List.set_cons_succ]
                      refine wpAnyH_take (i := 4) (v := ?_) rfl (by kernel_rfl) (by kernel_rfl) (by kernel_rfl) (fun _ _ _ h => h) (Or.inl ⟨by rfl, ?_⟩) (by assumption) ?_
                      rotate_left; focus (intro w hSw; (try dsimp only at hSw); go_simp; try (with_reducible rfl); done)
                      try simp only [List.getElem_toArray, List.getElem_cons_zero, List.getElem_cons_succ, Act.put, List.setIfInBounds_toArray, List.set_cons_zero, List.set_cons_succ]
                      refine wpAnyH_take (i := 5) (v := ?_) rfl (by kernel_rfl) (by kernel_rfl) (by kernel_rfl) (fun _ _ _ h => h) (Or.inl ⟨by rfl, ?_⟩) (by assumption) ?_
                      rotate_left; focus (intro w hSw; (try dsimp only at hSw); go_simp; try (with_reducible rfl); done)
                      try simp only [List.getElem_toArray, List.getElem_cons_zero, List.getElem_cons_succ, Act.put, List.setIfInBounds_toArray, List.set_cons_zero, List.set_cons_succ]
                      refine wpAnyH_take (i := 6) (v := ?_) rfl (by kernel_rfl) (by kernel_rfl) (by kernel_rfl) (fun _ _ _ h => h) (Or.inl ⟨by rfl, ?_⟩) (by assumption) ?_
                      rotate_left; focus (intro w hSw; (try dsimp only at hSw); go_simp; try (with_reducible rfl); done)
                      try simp only [List.getElem_toArray, List.getElem_cons_zero, List.getElem_cons_succ, Act.put, List.setIfInBounds_toArray, List.set_cons_zero, List.set_cons_succ]
                      refine wpAnyH_take (i := 7) (v := ?_) rfl (by kernel_rfl) (by kernel_rfl) (by kernel_rfl) (fun _ _ _ h => h) (Or.inl ⟨by rfl, ?_⟩) (by assumption) ?_
                      rotate_left; focus (intro w hSw; (try dsimp only at hSw); go_simp; try (with_reducible rfl); done)
                      try simp only [List.getElem_toArray, List.getElem_cons_zero, List.getElem_cons_succ, Act.put, List.setIfInBounds_toArray, List.set_cons_zero, List.set_cons_succ]
                      refine wpAnyH_take (i := 8) (v := ?_) rfl (by kernel_rfl) (by kernel_rfl) (by kernel_rfl) (fun _ _ _ h => h) (Or.inl ⟨by rfl, ?_⟩) (by assumption) ?_
                      rotate_left; focus (intro w hSw; (try dsimp only at hSw); go_simp; try (with_reducible rfl); done)
                      try simp only [List.getElem_toArray, List.getElem_cons_zero, List.getElem_cons_succ, Act.put, List.setIfInBounds_toArray, List.set_cons_zero, List.set_cons_succ]
                      refine wpAnyH_take (i := 9) (v := ?_) rfl (by kernel_rfl) (by kernel_rfl) (by kernel_rfl) (fun _ _ _ h => h) (Or.inl ⟨by rfl, ?_⟩) (by assumption) ?_
                      rotate_left; focus (intro w hSw; (try dsimp only at hSw); go_simp; try (with_reducible rfl); done)
                      try simp only [List.getElem_toArray, List.getElem_cons_zero, List.getElem_cons_succ, Act.put, List.setIfInBounds_toArray, List.set_cons_zero, List.set_cons_succ]
                      refine wpAnyH_take (i := 10) (v := ?_) rfl (by kernel_rfl) (by kernel_rfl) (by kernel_rfl) (fun _ _ _ h => h) (Or.inl ⟨by rfl, ?_⟩) (by assumption) ?_
                      rotate_left; focus (intro w hSw; (try dsimp only at hSw); go_simp; try (with_reducible rfl); done)
                      try simp only [List.getElem_toArray, List.getElem_cons_zero, List.getElem_cons_succ, Act.put, List.setIfInBounds_toArray, List.set_cons_zero, List.set_cons_succ]
                      refine wpAnyH_ready (rs := [11]) (by kernel_rfl) (by simp) ?_
                      refine AllReadyH.cons rfl (fun K hK => ?_) AllReadyH.nil
                      go_simp
                      (go_at_call 135; refine (HBT.out _).mono ?_; rintro e w8 ⟨rfl, hb8⟩; have hst8 := HSTD.out.call hb8; have HST8 := Lib.hid hst8; obtain ⟨p0, p1⟩ := hst8.at2 0 rfl; obtain ⟨g0, g1, g2⟩ := hst8.at3 6 rfl; have m1 := HMC.out _ (hst8.nth 5 rfl); clear hst8 hb8)
                      refine hK.out _ _ ?_ (fun hHeld => ?_)
                      · (try dsimp only); (first | exact ⟨g0, g1, g2, p0, m1⟩ | go_keep)
                      clear hK K
                      try simp only [List.getElem_toArray, List.getElem_cons_zero, List.getElem_cons_succ, Act.put, List.setIfInBounds_toArray, List.set_cons_zero, List.set_cons_succ]
                      refine wpAnyH_take (i := 12) (v := ?_) rfl (by kernel_rfl) (by kernel_rfl) (by kernel_rfl) (fun _ _ _ h => h) (Or.inl ⟨by rfl, ?_⟩) (by assumption) ?_
                      rotate_left; focus (intro w hSw; (try dsimp only at hSw); go_simp; try (with_reducible rfl); done)
                      try simp only [List.getElem_toArray, List.getElem_cons_zero, List.getElem_cons_succ, Act.put, List.setIfInBounds_toArray, List.set_cons_zero, List.set_cons_succ]
                      refine wpAnyH_take (i := 13) (v := ?_) rfl (by kernel_rfl) (by kernel_rfl) (by kernel_rfl) (fun _ _ _ h => h) (Or.inl ⟨by rfl, ?_⟩) (by assumption) ?_
                      rotate_left; focus (intro w hSw; (try dsimp only at hSw); go_simp; try (with_reducible rfl); done)
                      try simp only [List.getElem_toArray, List.getElem_cons_zero, List.getElem_cons_succ, Act.put, List.setIfInBounds_toArray, List.set_cons_zero, List.set_cons_succ]
                      refine wpAnyH_take (i := 14) (v := ?_) rfl (by kernel_rfl) (by kernel_rfl) (by kernel_rfl) (fun _ _ _ h => h) (Or.inl ⟨by rfl, ?_⟩) (by assumption) ?_
                      rotate_left; focus (intro w hSw; (try dsimp only at hSw); go_simp; try (with_reducible rfl); done)
                      try simp only [List.getElem_toArray, List.getElem_cons_zero, List.getElem_cons_succ, Act.put, List.setIfInBounds_toArray, List.set_cons_zero, List.set_cons_succ]
                      refine wpAnyH_take (i := 15) (v := ?_) rfl (by kernel_rfl) (by kernel_rfl) (by kernel_rfl) (fun _ _ _ h => h) (Or.inl ⟨by rfl, ?_⟩) (by assumption) ?_
                      rotate_left; focus (intro w hSw; (try dsimp only at hSw); go_simp; try (with_reducible rfl); done)
                      try simp only [List.getElem_toArray, List.getElem_cons_zero, List.getElem_cons_succ, Act.put, List.setIfInBounds_toArray, List.set_cons_zero, List.set_cons_succ]
                      refine wpAnyH_done (by kernel_rfl) ?_ _
                      clear p0 p1 g0 g1 g2 m1 HBT HMC HSTD HST
                    · have HCN := Lib.hid (Ll.candK_no HIC.out)
                      go_wp2
                      go_roundg (l.length - (k + 1))
                      case measure => have := HGK4.out; omega
                      case rel => exact ⟨k + 1, vc, by omega, rfl, by go_num, by rw [HCN.out, HC.out], rfl, by rw [HCN.out, HC.out]; exact HST8.out.drop⟩
                    · have hcy := Ll.candK_yes HIC.out
                      rw [HC.out] at hcy
                      have HCY := Lib.hid hcy
                      clear hcy
                      cases c with
                      | nil =>
                        have hat : Ll.atOf [] = -1 := rfl
                        have hlt0 : decide ((-1 : Int) < 0) = true := by decide
                        rw [HC.out, hat]
                        clear hat
                        go_wp2
                        go_roundg (l.length - (k + 1))
                        case measure => have := HGK4.out; omega
                        case rel => exact ⟨k + 1, vc, by omega, rfl, by go_num, by rw [HCY.out]; rfl, rfl, by rw [HCY.out]; exact HST8.out.drop⟩
                      | cons a r =>
                        have hat : Ll.atOf (a :: r) = (a : Int) := rfl
                        have ha0 : (0 : Int) ≤ (a : Int) := by omega
                        have hcs := Ll.clOf_snoc (n := h) (col := col) (a := a) (b := k) (r := r)
                        rw [HC.out, hat]
                        have HCS := Lib.hid hcs
                        have HST := Lib.hid (HST8.out.pick [1, 0, 2, 3, 4, 5, 6] 7 rfl rfl)
                        have hsm2 : (((Ll.allK l m T h ++ Ll.clK l m T h col ++ Ll.clOf h col (a :: r)).map Ll.clV).length : Int) ≤ 30000 := by rw [List.length_map]; omega
                        clear hat hcs HST8 hsm
                        go_wp2_with (refine St.app1n Ll.clE rfl (.tmp 76) (.tmp 82) rfl rfl HST.out (Ll.clV ((h : Int), (col : Int), (a : Int), (k : Int))) rfl _ _ rfl rfl rfl (Ll.clV_one _) (by unfold maxLen; omega) (by omega) ?_; intro g' n' c' w9 hst9; clear HST)
                        go_roundg (l.length - (k + 1))
                        case measure => have := HGK4.out; omega
                        case rel => exact ⟨k + 1, _, by omega, rfl, by go_num, by rw [HCY.out]; rfl, rfl, by
                          have e : (Ll.allK l m T h ++ Ll.clK l m T h col ++ Ll.clOf h col (a :: r)).map Ll.clV ++ [Ll.clV ((h : Int), (col : Int), (a : Int), (k : Int))] = (Ll.allK l m T h ++ Ll.clK l m T h col ++ Ll.clOf h col (a :: r ++ [k])).map Ll.clV := by rw [HCS.out]; simp
                          rw [HCY.out, ← e]
                          exact hst9.pick [0, 2, 3, 4, 5, 6] 7 rfl rfl⟩
                  · have hic0 : Ll.isC l m T n col k = false := by rw [hic, decide_eq_false (by omega)]; rfl
                    have HCN := Lib.hid (Ll.candK_no hic0)
                    have hne : ((h : Int) != (n : Int)) = true := by rw [bne_iff_ne]; omega
                    clear hic hic0 hhn hmb hc
                    go_wp2
                    refine wp_region_held_drew (S := (fun w' => w'.cell? ⟨wr.heap.size, 0, none⟩ = some (.int .i64 h))) (by kernel_rfl) ?_ (fun hHeld => ?_)
                    · (try dsimp only); (first | exact p0 | go_keep)

                    refine wpAnyH_take (i := 0) (v := ?_) rfl (by kernel_rfl) (by kernel_rfl) (by kernel_rfl) (fun _ _ _ h => h) (Or.inl ⟨by rfl, ?_⟩) (by assumption) ?_
                    rotate_left; focus (intro w hSw; (try dsimp only at hSw); go_simp; try (with_reducible rfl); done)
                    try simp only [List.getElem_toArray, List.getElem_cons_zero, List.getElem_cons_succ, Act.put, List.setIfInBounds_toArray, List.set_cons_zero, List.set_cons_succ]
                    refine wpAnyH_take (i := 1) (v := ?_) rfl (by kernel_rfl) (by kernel_rfl) (by kernel_rfl) (fun _ _ _ h => h) (Or.inl ⟨by rfl, ?_⟩) (by assumption) ?_
                    rotate_left; focus (intro w hSw; (try dsimp only at hSw); go_simp; try (with_reducible rfl); done)
                    try simp only [List.getElem_toArray, List.getElem_cons_zero, List.getElem_cons_succ, Act.put, List.setIfInBounds_toArray, List.set_cons_zero, List.set_cons_succ]
                    refine wpAnyH_take (i := 2) (v := ?_) rfl (by kernel_rfl) (by kernel_rfl) (by kernel_rfl) (fun _ _ _ h => h) (Or.inl ⟨by rfl, ?_⟩) (by assumption) ?_
                    rotate_left; focus (intro w hSw; (try dsimp only at hSw); go_simp; try (with_reducible rfl); done)
                    try simp only [List.getElem_toArray, List.getElem_cons_zero, List.getElem_cons_succ, Act.put, List.setIfInBounds_toArray, List.set_cons_zero, List.set_cons_succ]
                    refine wpAnyH_take (i := 3) (v := ?_) rfl (by kernel_rfl) (by kernel_rfl) (by kernel_rfl) (fun _ _ _ h => h) (Or.inl ⟨by rfl, ?_⟩) (by assumption) ?_
                    rotate_left; focus (intro w hSw; (try dsimp only at hSw); go_simp; try (with_reducible rfl); done)
                    try simp only [List.getElem_toArray, List.getElem_cons_zero, List.getElem_cons_succ, Act.put, List.setIfInBounds_toArray, List.set_cons_zero, List.set_cons_succ]
                    refine wpAnyH_take (i := 4) (v := ?_) rfl (by kernel_rfl) (by kernel_rfl) (by kernel_rfl) (fun _ _ _ h => h) (Or.inl ⟨by rfl, ?_⟩) (by assumption) ?_
                    rotate_left; focus (intro w hSw; (try dsimp only at hSw); go_simp; try (with_reducible rfl); done)
                    try simp only [List.getElem_toArray, List.getElem_cons_zero, List.getElem_cons_succ, Act.put, List.setIfInBounds_toArray, List.set_cons_zero, List.set_cons_succ]
                    first | (refine wpAnyH_take (i := 5) (v := undef) rfl (by kernel_rfl) (by kernel_rfl) (by kernel_rfl) (fun _ _ _ h => h) (Or.inr ⟨by rfl, rfl⟩) (by assumption) ?_) | (refine wpAnyH_take (i := 5) (v := ?_) rfl (by kernel_rfl) (by kernel_rfl) (by kernel_rfl) (fun _ _ _ h => h) (Or.inl ⟨by rfl, ?_⟩) (by assumption) ?_; rotate_left; focus (intro w hSw; (try dsimp only at hSw); go_simp; try (with_reducible rfl); done))
                    try simp only [List.getElem_toArray, List.getElem_cons_zero, List.getElem_cons_succ, Act.put, List.setIfInBounds_toArray, List.set_cons_zero, List.set_cons_succ]
                    first | (refine wpAnyH_take (i := 6) (v := undef) rfl (by kernel_rfl) (by kernel_rfl) (by kernel_rfl) (fun _ _ _ h => h) (Or.inr ⟨by rfl, rfl⟩) (by assumption) ?_) | (refine wpAnyH_take (i := 6) (v := ?_) rfl (by kernel_rfl) (by kernel_rfl) (by kernel_rfl) (fun _ _ _ h => h) (Or.inl ⟨by rfl, ?_⟩) (by assumption) ?_; rotate_left; focus (intro w hSw; (try dsimp only at hSw); go_simp; try (with_reducible rfl); done))
                    try simp only [List.getElem_toArray, List.getElem_cons_zero, List.getElem_cons_succ, Act.put, List.setIfInBounds_toArray, List.set_cons_zero, List.set_cons_succ]
                    first | (refine wpAnyH_take (i := 7) (v := undef) rfl (by kernel_rfl) (by kernel_rfl) (by kernel_rfl) (fun _ _ _ h => h) (Or.inr ⟨by rfl, rfl⟩) (by assumption) ?_) | (refine wpAnyH_take (i := 7) (v := ?_) rfl (by kernel_rfl) (by kernel_rfl) (by kernel_rfl) (fun _ _ _ h => h) (Or.inl ⟨by rfl, ?_⟩) (by assumption) ?_; rotate_left; focus (intro w hSw; (try dsimp only at hSw); go_simp; try (with_reducible rfl); done))
                    try simp only [List.getElem_toArray, List.getElem_cons_zero, List.getElem_cons_succ, Act.put, List.setIfInBounds_toArray, List.set_cons_zero, List.set_cons_succ]
                    first | (refine wpAnyH_take (i := 8) (v := undef) rfl (by kernel_rfl) (by kernel_rfl) (by kernel_rfl) (fun _ _ _ h => h) (Or.inr ⟨by rfl, rfl⟩) (by assumption) ?_) | (refine wpAnyH_take (i := 8) (v := ?_) rfl (by kernel_rfl) (by kernel_rfl) (by kernel_rfl) (fun _ _ _ h => h) (Or.inl ⟨by rfl, ?_⟩) (by assumption) ?_; rotate_left; focus (intro w hSw; (try dsimp only at hSw); go_simp; try (with_reducible rfl); done))
                    try simp only [List.getElem_toArray, List.getElem_cons_zero, List.getElem_cons_succ, Act.put, List.setIfInBounds_toArray, List.set_cons_zero, List.set_cons_succ]
                    first | (refine wpAnyH_take (i := 9) (v := undef) rfl (by kernel_rfl) (by kernel_rfl) (by kernel_rfl) (fun _ _ _ h => h) (Or.inr ⟨by rfl, rfl⟩) (by assumption) ?_) | (refine wpAnyH_take (i := 9) (v := ?_) rfl (by kernel_rfl) (by kernel_rfl) (by kernel_rfl) (fun _ _ _ h => h) (Or.inl ⟨by rfl, ?_⟩) (by assumption) ?_; rotate_left; focus (intro w hSw; (try dsimp only at hSw); go_simp; try (with_reducible rfl); done))
                    try simp only [List.getElem_toArray, List.getElem_cons_zero, List.getElem_cons_succ, Act.put, List.setIfInBounds_toArray, List.set_cons_zero, List.set_cons_succ]
                    first | (refine wpAnyH_take (i := 10) (v := undef) rfl (by kernel_rfl) (by kernel_rfl) (by kernel_rfl) (fun _ _ _ h => h) (Or.inr ⟨by rfl, rfl⟩) (by assumption) ?_) | (refine wpAnyH_take (i := 10) (v := ?_) rfl (by kernel_rfl) (by kernel_rfl) (by kernel_rfl) (fun _ _ _ h => h) (Or.inl ⟨by rfl, ?_⟩) (by assumption) ?_; rotate_left; focus (intro w hSw; (try dsimp only at hSw); go_simp; try (with_reducible rfl); done))
                    try simp only [List.getElem_toArray, List.getElem_cons_zero, List.getElem_cons_succ, Act.put, List.setIfInBounds_toArray, List.set_cons_zero, List.set_cons_succ]
                    first | (refine wpAnyH_take (i := 11) (v := undef) rfl (by kernel_rfl) (by kernel_rfl) (by kernel_rfl) (fun _ _ _ h => h) (Or.inr ⟨by rfl, rfl⟩) (by assumption) ?_) | (refine wpAnyH_take (i := 11) (v := ?_) rfl (by kernel_rfl) (by kernel_rfl) (by kernel_rfl) (fun _ _ _ h => h) (Or.inl ⟨by rfl, ?_⟩) (by assumption) ?_; rotate_left; focus (intro w hSw; (try dsimp only at hSw); go_simp; try (with_reducible rfl); done))
                    try simp only [List.getElem_toArray, List.getElem_cons_zero, List.getElem_cons_succ, Act.put, List.setIfInBounds_toArray, List.set_cons_zero, List.set_cons_succ]
                    first | (refine wpAnyH_take (i := 12) (v := undef) rfl (by kernel_rfl) (by kernel_rfl) (by kernel_rfl) (fun _ _ _ h => h) (Or.inr ⟨by rfl, rfl⟩) (by assumption) ?_) | (refine wpAnyH_take (i := 12) (v := ?_) rfl (by kernel_rfl) (by kernel_rfl) (by kernel_rfl) (fun _ _ _ h => h) (Or.inl ⟨by rfl, ?_⟩) (by assumption) ?_; rotate_left; focus (intro w hSw; (try dsimp only at hSw); go_simp; try (with_reducible rfl); done))
                    try simp only [List.getElem_toArray, List.getElem_cons_zero, List.getElem_cons_succ, Act.put, List.setIfInBounds_toArray, List.set_cons_zero, List.set_cons_succ]
                    first | (refine wpAnyH_take (i := 13) (v := undef) rfl (by kernel_rfl) (by kernel_rfl) (by kernel_rfl) (fun _ _ _ h => h) (Or.inr ⟨by rfl, rfl⟩) (by assumption) ?_) | (refine wpAnyH_take (i := 13) (v := ?_) rfl (by kernel_rfl) (by kernel_rfl) (by kernel_rfl) (fun _ _ _ h => h) (Or.inl ⟨by rfl, ?_⟩) (by assumption) ?_; rotate_left; focus (intro w hSw; (try dsimp only at hSw); go_simp; try (with_reducible rfl); done))
                    try simp only [List.getElem_toArray, List.getElem_cons_zero, List.getElem_cons_succ, Act.put, List.setIfInBounds_toArray, List.set_cons_zero, List.set_cons_succ]
                    refine wpAnyH_take (i := 14) (v := ?_) rfl (by kernel_rfl) (by kernel_rfl) (by kernel_rfl) (fun _ _ _ h => h) (Or.inl ⟨by rfl, ?_⟩) (by assumption) ?_
                    rotate_left; focus (intro w hSw; (try dsimp only at hSw); go_simp; try (with_reducible rfl); done)
                    try simp only [List.getElem_toArray, List.getElem_cons_zero, List.getElem_cons_succ, Act.put, List.setIfInBounds_toArray, List.set_cons_zero, List.set_cons_succ]
                    refine wpAnyH_take (i := 15) (v := ?_) rfl (by kernel_rfl) (by kernel_rfl) (by kernel_rfl) (fun _ _ _ h => h) (Or.inl ⟨by rfl, ?_⟩) (by assumption) ?_
                    rotate_left; focus (intro w hSw; (try dsimp only at hSw); go_simp; try (with_reducible rfl); done)
                    try simp only [List.getElem_toArray, List.getElem_cons_zero, List.getElem_cons_succ, Act.put, List.setIfInBounds_toArray, List.set_cons_zero, List.set_cons_succ]
                    refine wpAnyH_done (by kernel_rfl) ?_ _
                    clear p0 p1 g0 g1 g2 m1 HMC HST
                    go_wp2
                    go_roundg (l.length - (k + 1))
                    case measure => have := HGK4.out; omega
                    case rel => exact ⟨k + 1, vc, by omega, rfl, by go_num, by rw [HCN.out, HC.out], rfl, by rw [HCN.out, HC.out]; exact HSTD.out.drop⟩
                · obtain rfl : l.length = k := by omega
                  have hsm := Ll.out_small (m := m) (n := n) (col := col) HL40.out (show T ≤ 30 by omega) (show N ≤ 20 by omega) hlt hlc hk
                  have hck : Ll.candK l m T n col l.length = Ll.cand l m T n col := Ll.cand_def.symm
                  rw [hck] at hst hsm
                  have HRS := Lib.hid (Ll.rowK_succ (l := l) (m := m) (t := T) (n := n) (k := col))
                  have HCLS := Lib.hid (Ll.clK_succ (l := l) (m := m) (t := T) (n := n) (k := col))
                  have hrl : (((Ll.rowK l m T n col).map Ll.iV).length : Int) ≤ 31 := by rw [List.length_map, Ll.rowK_len]; omega
                  rw [hck]
                  generalize Ll.atOf (Ll.cand l m T n col) = av at *
                  have hst2 := hst.pick (ρ := [aOwn 3 1 (.slice s.1 s.2.1 s.2.2) ((Ll.rowK l m T n col).map Ll.iV), aOwn 141 4 vc ((Ll.allK l m T n ++ Ll.clK l m T n col ++ Ll.clOf n col (Ll.cand l m T n col)).map Ll.clV), aOwn 35 1 (.slice (some ⟨gr, 0, none⟩) N N) ((q.map Prod.fst ++ s :: List.replicate (N - n - 1) (none, 0, 0)).map Ll.slV), aAll (q.map Ll.aRow), Fc.aU (.slice (some ⟨gm, 0, none⟩) l.length l.length) m, aCel w.heap.size 68 #[.int .i64 T, .int .i64 N, .slice ap l.length cp]]) [2, 0, 1, 3, 4, 5] 6 rfl rfl
                  have hsl : (q.map Prod.fst ++ s :: List.replicate (N - n - 1) ((none, 0, 0) : Ll.SV)).length = N := by simp [HQL.out]; omega
                  have r1 := ((hst.pick (ρ := [aOwn 35 1 (.slice (some ⟨gr, 0, none⟩) N N) ((q.map Prod.fst ++ s :: List.replicate (N - n - 1) (none, 0, 0)).map Ll.slV)]) [1] 6 rfl rfl).cellOwn (f := Ll.slV) (fun _ => rfl) n (by rw [hsl]; exact hlt) (none, 0, 0)).1
                  have hgn : (q.map Prod.fst ++ s :: List.replicate (N - n - 1) ((none, 0, 0) : Ll.SV)).getD n (none, 0, 0) = s := by
                    rw [List.getD_eq_getElem?_getD, List.getElem?_append_right (by simp [HQL.out])]; simp [HQL.out]
                  rw [hgn] at r1
                  replace r1 : wr.cell? ⟨gr, n, none⟩ = some (.slice s.1 s.2.1 s.2.2) := r1
                  have HST := Lib.hid hst2
                  have HSL := Lib.hid hsl
                  have HNL := Lib.hid (show n < (q.map Prod.fst ++ s :: List.replicate (N - n - 1) ((none, 0, 0) : Ll.SV)).length by rw [hsl]; exact hlt)
                  clear hst hst2 hck hsl hgn
                  go_wp2_with (refine St.app1n (o := ⟨some 113, _, _, _, _, _⟩) intE ?a1 (.tmp 110) (.tmp 112) ?a2 ?a3 HST.out (.int .i64 av) ?a4 wr.heap.size 1 ?a5 ?a6 ?a7 ?a8 ?a9 ?a10 ?a11; (case a1 => rfl); (case a2 => rfl); (case a6 => rfl); (case a7 => rfl); (case a4 => rfl); (case a3 => rfl); (case a5 => rfl); (case a8 => (intro q hq; simp [Value.cells] at hq; subst hq; rfl)); (case a9 => (unfold maxLen; omega)); (case a10 => omega); intro g' n' c' w9 hst9; clear HST r1; have hst10 := (show St w w9 (aOwn 35 1 (.slice (some ⟨gr, 0, none⟩) N N) ((q.map Prod.fst ++ s :: List.replicate (N - n - 1) (none, 0, 0)).map Ll.slV) :: _) from hst9.pick [2, 0, 1, 3, 4, 5] 6 rfl rfl); have hst11 := hst10.setOwn (f := Ll.slV) (fun _ => rfl) n (some ⟨g', 0, none⟩, n', c'); obtain ⟨r1, r2⟩ := hst10.cellOwn (f := Ll.slV) (fun _ => rfl) n HNL.out (none, 0, 0); have HST11 := Lib.hid hst11; clear hst9 hst10 hst11)
                  go_roundg (T + 1 - (col + 1))
                  case measure => have := HGK3.out; omega
                  case rel =>
                    have e1 : (q.map Prod.fst ++ s :: List.replicate (N - n - 1) ((none, 0, 0) : Ll.SV)).set n (some ⟨g', 0, none⟩, n', c') = q.map Prod.fst ++ (some ⟨g', 0, none⟩, n', c') :: List.replicate (N - n - 1) (none, 0, 0) := by
                      rw [List.set_append_right _ _ (by simp [HQL.out])]; simp [HQL.out]
                    have h11 := HST11.out
                    rw [e1] at h11
                    refine ⟨col + 1, vc, (some ⟨g', 0, none⟩, n', c'), by omega, rfl, by go_num, rfl, ?_⟩
                    rw [HRS.out, HCLS.out, ← List.append_assoc, List.map_append (l₁ := Ll.rowK l m T n col)]
                    exact h11.pick [2, 0, 1, 3, 4, 5] 6 rfl rfl
            · obtain rfl : col = T + 1 := by omega
              have HRS := Lib.hid (Ll.rowsK_succ (l := l) (m := m) (t := T) (k := n))
              have HAS := Lib.hid (Ll.allK_succ (l := l) (m := m) (t := T) (k := n))
              have HST := Lib.hid hst
              have hcast : ((T + 1 : Nat) : Int) = (T : Int) + 1 := by omega
              clear hst
              rw [hcast]
              clear hcast
              go_wp2
              go_roundg (N - (n + 1))
              case measure => have := HGK.out; omega
              case rel =>
                refine ⟨n + 1, vc, q ++ [(s, Ll.rowK l m T n (T + 1))], by omega, rfl, by go_num, rfl, Lib.hid (by rw [List.map_append, HQ.out, HRS.out]; rfl), ?_⟩
                have h1 := (HST.out.pick (ρ := Ll.aRow (s, Ll.rowK l m T n (T + 1)) :: aAll (q.map Ll.aRow) :: _) [2, 3, 1, 0, 4, 5] 6 rfl rfl).snoc
                have e1 : q.map Ll.aRow ++ [Ll.aRow (s, Ll.rowK l m T n (T + 1))] = (q ++ [(s, Ll.rowK l m T n (T + 1))]).map Ll.aRow := by simp
                have e2 : q.map Prod.fst ++ s :: List.replicate (N - n - 1) (none, 0, 0) = (q ++ [(s, Ll.rowK l m T n (T + 1))]).map Prod.fst ++ List.replicate (N - (n + 1)) (none, 0, 0) := by simp [Nat.sub_sub]
                rw [e1] at h1
                rw [← e2, HAS.out]
                exact h1.pick [1, 0, 2, 3, 4] 5 rfl rfl
        · obtain rfl : N = n := by omega
          have HST := Lib.hid hst
          clear hst
          go_wp2
          refine bodyPost_ret (v := .tuple #[.slice (some ⟨gr, 0, none⟩) N N, vc, .int .i64 0]) (by simp [results, Try.results66, go_sem]) rfl ?_
          refine ⟨E, Fs, W, Rc, M, _, vc, q, rfl, HG, Lib.hid (by rw [HM.out]; exact HQ.out), ?_⟩
          rw [HM.out]
          have h1 := HST.out
          rw [Nat.sub_self, List.replicate_zero, List.append_nil] at h1
          exact h1.pick [0, 1, 2] 5 rfl rfl
end Go.Proofs.Ytldapomcjfkeeaa
