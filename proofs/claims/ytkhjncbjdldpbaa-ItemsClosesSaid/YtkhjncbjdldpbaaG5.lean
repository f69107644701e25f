/-
  Parts of the proof of ItemsCloses, put together: ItRefCl. (Helper texts.)
-/
import Derived.Test.YtkhjncbjdldpbaaG3
import Derived.Test.YtkhjncbjdldpbaaG4
import Derived.Deep.LoopGhost
import Derived.Deep.QuietTactic
import Derived.BigQuiet

/-
  Closed of the reference: all that can be come to, each once, rising.
-/
namespace Go.Proofs.Ytkhjncbjdldpbaa
set_option linter.unusedVariables false
set_option linter.unusedSimpArgs false
open Go.ChangeShapes Go.WideShapes Go.ChangeAt Go.RowKit

namespace It
theorem itV_size {L : List I} : ∀ u ∈ L.map itV, u.cells.size = 3 := fun u hu => by
  obtain ⟨x, -, rfl⟩ := List.mem_map.1 hu; rfl
theorem getD_mem {l : List (Int × Int)} {d : Nat} (h : d < l.length) : l.getD d (0, 0) ∈ l := by rw [List.getD_eq_getElem?_getD, List.getElem?_eq_getElem h]; exact List.getElem_mem _
/-- The facts as the reference has them. -/
structure Fx (l : List Fc.Pr) (N : Nat) (E : List Bool) (F : List Nat) : Prop where
  ex : HasF l N
  e : E = theE l N
  f : F = theF l N
  le : E.length = N
  lf : F.length = N
/-- What Closed of the reference leaves. -/
def RetRefCl (t n : Int) (l : List Fc.Pr) (w0 : World) (μ : List Asrt) (L : List I) (e : Ending) (w' : World) : Prop :=
  ∃ (a' : Option Addr) (n' c' : Nat) (out : List I), e = .returned (.slice a' n' c') ∧ out.Pairwise (fun x y => lt x y = true) ∧ (∀ x, x ∈ out ↔ Rch (nexts t.toNat (theE l n.toNat) (theF l n.toNat) l) L x) ∧ St w0 w' (aOwn 72 3 (.slice a' n' c') (out.map itV) :: μ)
end It

set_option maxRecDepth 100000 in
set_option maxHeartbeats 8000000 in
theorem rClosed_any (wb : World) (t n : Int) (vp : Value) (l : List Fc.Pr) (hp : Enc.prods.R (fun b => b < wb.heap.size) wb [vp] l) (he : Gr.err t n l = 0) (gE cE gF cF : Nat) (vW vR vM : Value) (E : List Bool) (Fs : List Nat) (hF : It.Fx l n.toNat E Fs) (w0 w : World) (μ : List Asrt) (L : List It.I) (aL : Option Addr) (cL : Nat) (hbw : Below wb.heap.size wb w0) (hok : ∀ x ∈ L, It.okI t l x) (hlen : L.length ≤ 20000)
    (hL : ∀ W, St w0 W μ → (It.Enc.itm.sl 24).R (fun b => b < W.heap.size) W [.slice aL L.length cL] L) (hst : St w0 w (Fc.aB (.slice (some ⟨gE, 0, none⟩) n.toNat cE) E :: Fc.aU (.slice (some ⟨gF, 0, none⟩) n.toNat cF) Fs :: μ)) :
    Calls Try.prog 29 #[.agg #[.int .i64 t, .int .i64 n, vp], .agg #[.slice (some ⟨gE, 0, none⟩) n.toNat cE, .slice (some ⟨gF, 0, none⟩) n.toNat cF, vW, vR, vM], .slice aL L.length cL] w (It.RetRefCl t n l w0 (Fc.aB (.slice (some ⟨gE, 0, none⟩) n.toNat cE) E :: Fc.aU (.slice (some ⟨gF, 0, none⟩) n.toNat cF) Fs :: μ) L) := by
  have hz := Gr.err_zero he
  obtain ⟨hex, hE, hFs, hle, hlf⟩ := hF
  obtain ⟨W0, R0, M0, hgood⟩ := It.the_good hex
  rw [← hE, ← hFs] at hgood
  obtain ⟨ap, bp, op_, cp, rfl, -, p3, p4⟩ := slProds hp
  have HPC : Hid (∀ i, i < l.length → ap = some ⟨bp, op_, none⟩ ∧ ∃ (av : Option Addr) (nv cv : Nat), ∀ W, Below wb.heap.size wb W → W.cell? ⟨bp, op_ + i * 2, none⟩ = some (.int .i64 (l.getD i (0, [])).1) ∧ W.cell? ⟨bp, op_ + i * 2 + 1, none⟩ = some (.slice av nv cv)) := Lib.hid (fun i hi => by
    obtain ⟨vb, a, b, hE, -⟩ := p4 i hi
    obtain ⟨ab, bb, ob, cb, rfl, -⟩ := Enc.slN (0, 0) hE
    exact ⟨(p3 (by omega)).1, ab, _, cb, fun W hW => ⟨bkeep hW a, bkeep hW b⟩⟩)
  generalize hvp : (Value.slice ap l.length cp) = vp at *
  have HVP := Lib.hid hvp.symm
  clear p3 p4 hvp
  unfold It.RetRefCl
  rw [← hE, ← hFs]
  have HGOOD := Lib.hid hgood
  have HCUBE := Lib.hid (fun W ν (h : St w0 W ν) => rCubeOf_any wb t n vp l hp he w0 W ν hbw h)
  have HBODY := Lib.hid (fun p h0 h1 W ν (h : St w0 W ν) => rBodyRest_st wb t n vp l hp (by omega) p h0 h1 w0 W ν hbw h)
  have HBEG := Lib.hid (fun (behind : Nat) (hbh : behind < 18446744073709551616) body vb W ν hb hx h => fcRBeg_any w0 gE n.toNat cE gF n.toNat cF vW vR vM E Fs behind (fun b => b < w0.heap.size) hle.symm hlf.symm (by omega) hgood.fb hbh body vb W ν hb hx h)
  have HPB := Lib.hid (fun p (h0 : (0:Int) ≤ p) (h1 : p ≤ l.length) => It.body_right he h0 h1)
  have HE := Lib.hid he; have HOK := Lib.hid hok; have HL := Lib.hid hL; have HBW := Lib.hid hbw; have HLE := Lib.hid hle
  have hst1 := (hst.alloc #[.int .i64 t, .int .i64 n, vp] 24).alloc #[.slice (some ⟨gE, 0, none⟩) n.toNat cE, .slice (some ⟨gF, 0, none⟩) n.toNat cF, vW, vR, vM] 68
  simp only [World.size_alloc] at hst1
  have HST := Lib.hid hst1
  have hln : L.length ≤ 20000 := hlen
  have ht30 : t ≤ 30 := hz.2.1
  have ht0 : 0 ≤ t := hz.1
  have hl40 : l.length ≤ 40 := hz.2.2.2.2.1
  have hwt : IntKind.i64.wrap (t + 1) = t + 1 := IntWalk.i64_in _ (by omega)
  clear hst hst1 hL hok hbw he hp hz hlen hgood hex hE hFs hle hlf
  go_enter Try.func29, Try.ntmps29
  go_wp2_with (fail)
  generalize (w.alloc _).alloc _ = w1 at HST ⊢
  generalize hg5 : w.heap.size + 1 = gf at HST ⊢
  generalize hg4 : w.heap.size = gg at HST ⊢
  clear hg4 hg5
  go_at_call 81
  refine (HCUBE.out _ _ HST.out).mono ?_
  rintro e w2 ⟨aQ, nQ, cQ, Q, rfl, hsh, hmk, hst2⟩
  have HST2 := Lib.hid hst2
  clear hst2 HST HCUBE
  have HLR := Lib.hid (HL.out w2 (HST2.out.pick (ρ := μ) [] 5 rfl rfl))
  have HSN := Lib.hid (HST2.out.nilOwn 72 3)
  go_wp2_with (at_builtin; refine St.appSl It.itemE rfl (.const (.slice none 0 0)) (.tmp 17) rfl rfl HSN.out (En := It.Enc.itm) (b2 := 24) rfl HLR.out rfl It.itV (fun _ _ _ h => h) It.it_one (by simp only [List.length_nil]; omega) (by simp only [List.length_nil]; omega) ?_; intro v6 w6 hst6; have hq6 := Que.of hst6 It.itV_size; rw [List.nil_append] at hq6; obtain ⟨a6, c6, rfl⟩ := Que.isSlice hq6; rw [List.length_map] at hq6; have HS6 := Lib.hid hq6; clear hst6 hq6)
  clear HLR HSN HST2
  have hcub : nQ = l.length + 1 ∧ ∃ gQ, aQ = some ⟨gQ, 0, none⟩ := by
    have ho : Own w6 0 109 1 (.slice aQ nQ cQ) (Q.map Cube.plV) := ((HS6.out.nth 1 rfl).unpair).ok _ (.head _)
    have hl := hsh.1
    rcases ho.2 with ⟨h1, h2⟩ | ⟨g, cap, cur, h1, -⟩
    · rw [List.length_map] at h2; omega
    · simp only [Value.slice.injEq] at h1
      rw [List.length_map] at h1
      exact ⟨by omega, g, h1.1⟩
  obtain ⟨rfl, gQ, rfl⟩ := hcub
  have HREF := Lib.hid (It.ref_start (t := t) (l := l) (L := L) (f := It.nexts t.toNat E Fs l) hsh hmk hln)
  clear hsh hmk
  go_loopg [8] ((11440 - ([] : List It.I).length) * 1242 + L.length) (fun gk v8 wr => ∃ (Q : List Cube.Pl) (seen todo : List It.I) (a : Option Addr) (c : Nat), v8 = .slice a todo.length c ∧ gk = (11440 - seen.length) * 1242 + todo.length ∧ Hid (It.Ref t l (It.nexts t.toNat E Fs l) L Q seen todo) ∧ St w0 wr (Que.aQue 72 3 (.slice a todo.length c) (todo.map It.itV) :: Cube.aCube (.slice (some ⟨gQ, 0, none⟩) (l.length + 1) cQ) Q :: aCel gf 68 #[.slice (some ⟨gE, 0, none⟩) n.toNat cE, .slice (some ⟨gF, 0, none⟩) n.toNat cF, vW, vR, vM] :: aCel gg 24 #[.int .i64 t, .int .i64 n, vp] :: Fc.aB (.slice (some ⟨gE, 0, none⟩) n.toNat cE) E :: Fc.aU (.slice (some ⟨gF, 0, none⟩) n.toNat cF) Fs :: μ))
  case atStart => exact ⟨Q, [], L, a6, c6, rfl, rfl, HREF, HS6.out⟩
  case round =>
    clear HS6 HREF
    obtain ⟨Q, seen, todo, a, c, rfl, hgk, HR, hst⟩ := hrel
    have HGK := Lib.hid hgk
    have HS := Lib.hid hst
    clear hst hgk
    cases todo with
    | nil =>
      have hend := fun y => It.ref_end HE.out HOK.out HR.out y
      have hrise := It.rise_cubeL (V := Cube.mark Q) (hd := fun p => (It.body l (p : Int)).length + 1) (N := t.toNat + 1) (p := l.length + 1)
      have hlst := fun W ν (h : St w0 W (Cube.aCube (.slice (some ⟨gQ, 0, none⟩) (l.length + 1) cQ) Q :: ν)) => rList_any w0 W ν gQ cQ (l.length + 1) (t.toNat + 1) (fun p => (It.body l (p : Int)).length + 1) Q HR.out.sh (by omega) (by omega) (by omega) (fun p hp => ⟨by omega, by have := (HPB.out (p : Int) (by omega) (by omega)).1; omega⟩) h
      have HLST := Lib.hid (hlst _ _ (HS.out.pick (ρ := Cube.aCube (.slice (some ⟨gQ, 0, none⟩) (l.length + 1) cQ) Q :: Fc.aB (.slice (some ⟨gE, 0, none⟩) n.toNat cE) E :: Fc.aU (.slice (some ⟨gF, 0, none⟩) n.toNat cF) Fs :: μ) [1, 4, 5] 6 rfl rfl))
      generalize It.cubeL (Cube.mark Q) (fun p => (It.body l (p : Int)).length + 1) (t.toNat + 1) (l.length + 1) = out at *
      have HEND := Lib.hid hend; have HRISE := Lib.hid hrise
      have hz0 : decide ((0 : Int) < ((0 : Nat) : Int)) = false := rfl
      clear hend hrise hlst HS
      rw [List.length_nil]
      go_wp2_with (fail)
      go_at_call 83
      refine HLST.out.mono ?_
      rintro e w3 ⟨a3, n3, c3, rfl, hst3⟩
      have HS3 := Lib.hid hst3
      clear hst3 HLST
      go_wp2_with (fail)
      go_ret
      exact ⟨_, _, _, out, rfl, HRISE.out, HEND.out, HS3.out.pick [0, 2, 3] 4 rfl rfl⟩
    | cons x todo =>
      obtain ⟨ga, oa, ca, hva, hxat⟩ := Que.at_ HS.out (by simp)
      rw [List.length_map] at hva
      simp only [Value.slice.injEq] at hva
      obtain ⟨rfl, -, rfl⟩ := hva
      have x0 := hxat 0 (by simp) 0 (by decide)
      have x1 := hxat 0 (by simp) 1 (by decide)
      have x2 := hxat 0 (by simp) 2 (by decide)
      have htl := Que.tail HS.out
      have hokx := (It.ref_seen HE.out HOK.out HR.out).2 x (.inr (.head _))
      have HSL := Lib.hid (fun sn Qn td (h : It.Ref t l (It.nexts t.toNat E Fs l) L Qn sn td) => (It.ref_seen HE.out HOK.out h).1)
      obtain ⟨p, d, lk⟩ := x
      obtain ⟨k1, k2, k3, k4, k5, k6⟩ := hokx
      simp only at k1 k2 k3 k4 k5 k6
      obtain ⟨p, rfl⟩ := Int.eq_ofNat_of_zero_le k1
      obtain ⟨d, rfl⟩ := Int.eq_ofNat_of_zero_le k3
      obtain ⟨lk, rfl⟩ := Int.eq_ofNat_of_zero_le k5
      have hpl : p < l.length + 1 := by omega
      have hdl : d < (It.body l (p : Int)).length + 1 := by omega
      have hkl : lk < t.toNat + 1 := by omega
      replace x0 : wr.cell? ⟨ga, oa, none⟩ = some (.int .i64 (p : Int)) := x0
      replace x1 : wr.cell? ⟨ga, oa + 1, none⟩ = some (.int .i64 (d : Int)) := x1
      replace x2 : wr.cell? ⟨ga, oa + 2, none⟩ = some (.int .i64 (lk : Int)) := x2
      have hm1 : (1 : Int) ≤ ((((p : Int), (d : Int), (lk : Int)) :: todo).length : Nat) := by rw [List.length_cons]; omega
      have HGKL := Lib.hid (show (((p : Int), (d : Int), (lk : Int)) :: todo).length = todo.length + 1 from rfl)
      generalize (((p : Int), (d : Int), (lk : Int)) :: todo).length = m at *
      have hs1 : ∀ W, (Instr.slice 59 (.slice (some ⟨ga, oa, none⟩) m c) (some (.int .i64 1)) none none).run Try.prog W = .ok (Go.sliced (some ⟨ga, oa, none⟩) 1 m c 3) W := fun W => by
        have hsz : (sizeOf (Try.prog.elem 59)).run Try.prog W = .ok 3 W := by kernel_rfl
        have := run_slice_l (P := Try.prog) W 59 (some ⟨ga, oa, none⟩) m c (by kernel_rfl) .i64 1 (by decide) hm1
        rw [hsz] at this
        exact this
      obtain ⟨a1, c1, hv1⟩ := Que.isSlice htl
      rw [List.length_map] at hv1
      rw [hv1] at hs1 htl
      have hm0 : (0 : Int) < (m : Int) := by omega
      have hmD : decide ((0 : Int) < (m : Int)) = true := decide_eq_true hm0
      have blt := World.block_lt_of_cell? _ _ x0
      simp only at blt
      have HSA := Lib.hid (htl.alloc #[.int .i64 (p : Int), .int .i64 (d : Int), .int .i64 (lk : Int)] 72)
      clear hxat htl hv1 hm1 HS
      go_wp2_with (fail)
      generalize wr.alloc (.cells #[.int .i64 (p : Int), .int .i64 (d : Int), .int .i64 (lk : Int)] 72) = w4 at HSA ⊢
      generalize wr.heap.size = gx at HSA ⊢
      obtain ⟨i0, i1, i2⟩ := HSA.out.at3 0 rfl
      obtain ⟨gp, cp', gr, r0, r1, r2, r3, hgr⟩ := Cube.reads (HSA.out.pick (ρ := Cube.aCube (.slice (some ⟨gQ, 0, none⟩) (l.length + 1) cQ) Q :: Fc.aB (.slice (some ⟨gE, 0, none⟩) n.toNat cE) E :: μ) [2, 5] 7 rfl rfl) HR.out.sh rfl hpl hdl hkl
      have HSAD := Lib.hid (fun q => HSA.out.drewN q)
      have hpI : (p : Int) < ((l.length : Int) + 1) := by omega
      have hdI : (d : Int) < (((It.body l (p : Int)).length : Int) + 1) := by omega
      have hkI : (lk : Int) < ((t.toNat : Int) + 1) := by omega
      have hkM : (lk : Int) < max t 0 + 1 := by omega
      have HGR := Lib.hid hgr
      clear x0 x1 x2 blt hs1 HSA hgr
      cases hmk : Cube.mark Q p d lk
      · rw [hmk] at r2
        have HNEW := Lib.hid (It.ref_new HE.out HR.out hpl hdl hkl hmk)
        have HSET := Lib.hid (fun W ν (h : St w0 W (Cube.aCube (.slice (some ⟨gQ, 0, none⟩) (l.length + 1) cQ) Q :: ν)) => Cube.sets (k := lk) h HR.out.sh hpl hdl)
        clear hmk
        go_quiet (fail)
        have HSB := Lib.hid (HSAD.out nq)
        clear i0 i1 i2 r0 r1 r2 r3 HSAD
        generalize World.drewN _ _ = w5 at HSB ⊢
        go_wp2_with (fail)
        obtain ⟨i0, i1, i2⟩ := HSB.out.at3 0 rfl
        obtain ⟨gp2, cp2, gr2, r0, r1, r2, r3, hgr2⟩ := Cube.reads (HSB.out.pick (ρ := Cube.aCube (.slice (some ⟨gQ, 0, none⟩) (l.length + 1) cQ) Q :: Fc.aB (.slice (some ⟨gE, 0, none⟩) n.toNat cE) E :: μ) [2, 5] 7 rfl rfl) HR.out.sh rfl hpl hdl hkl
        have hset := HSET.out _ _ (HSB.out.drew.pick (ρ := Cube.aCube (.slice (some ⟨gQ, 0, none⟩) (l.length + 1) cQ) Q :: aCel gx 72 #[.int .i64 (p : Int), .int .i64 (d : Int), .int .i64 (lk : Int)] :: Que.aQue 72 3 (.slice a1 todo.length c1) (todo.map It.itV) :: aCel gf 68 #[.slice (some ⟨gE, 0, none⟩) n.toNat cE, .slice (some ⟨gF, 0, none⟩) n.toNat cF, vW, vR, vM] :: aCel gg 24 #[.int .i64 t, .int .i64 n, vp] :: Fc.aB (.slice (some ⟨gE, 0, none⟩) n.toNat cE) E :: Fc.aU (.slice (some ⟨gF, 0, none⟩) n.toNat cF) Fs :: μ) [2, 0, 1, 3, 4, 5, 6] 7 rfl rfl)
        rw [← hgr2] at hset
        have HS6 := Lib.hid hset
        clear hset hgr2
        go_still_tail 12, (by kernel_rfl)
        change wpList _ _ _ _ _ w5.drew
        have r2' : w5.drew.cell? ⟨gr2, lk, none⟩ = _ := r2
        have r3' : w5.drew.frozen? ⟨gr2, lk, none⟩ = false := r3
        generalize w5.drew = w6 at HS6 r2' r3' ⊢
        clear i0 i1 i2 r0 r1 r2 r3
        obtain ⟨g0, g1, g2⟩ := HS6.out.at3 4 rfl
        obtain ⟨i0, i1, i2⟩ := HS6.out.at3 1 rfl
        have HBD := Lib.hid (HBODY.out (p : Int) (by omega) (by omega) _ _ HS6.out)
        go_wp2_with (fail)
        go_at_call 70
        refine HBD.out.mono ?_
        rintro e w8 ⟨ab, cb, fp, rfl, hst8, hcb, hrest⟩
        have HST8 := Lib.hid hst8
        have HREST := Lib.hid hrest; have HCB := Lib.hid hcb
        clear hst8 hcb hrest HBD HS6 g0 g1 g2 i0 i1 i2 r2' r3'
        obtain ⟨i0, i1, i2⟩ := HST8.out.at3 2 rfl
        have hmea : ∀ nx : Nat, nx ≤ 1240 → (11440 - (seen.length + 1)) * 1242 + (todo.length + nx) < gk := fun nx hnx => by
          have h1 := HGK.out; have h2 := HGKL.out; have h3 := HSL.out _ _ _ HNEW.out
          rw [List.length_cons] at h3
          omega
        have HMEA := Lib.hid hmea
        clear hmea
        by_cases hd : d = (It.body l (p : Int)).length
        · have hdt : ((d : Int) == ((It.body l (p : Int)).length : Int)) = true := by rw [beq_iff_eq]; omega
          have hns := It.nexts_stop (T := t.toNat) (E := E) (F := Fs) (l := l) (x := ((p : Int), (d : Int), (lk : Int))) (.inl (by simp only; omega))
          have hnw := HNEW.out
          rw [hns, It.fresh_nil, List.append_nil] at hnw
          have HNW := Lib.hid hnw
          clear hns hnw hd
          go_wp2_with (fail)
          go_roundg ((11440 - (((p : Int), (d : Int), (lk : Int)) :: seen).length) * 1242 + todo.length)
          case measure => rw [List.length_cons]; exact HMEA.out 0 (by decide)
          case rel => exact ⟨_, _, todo, a1, c1, rfl, rfl, HNW, HST8.out.pick [3, 1, 4, 5, 6, 7] 8 rfl rfl⟩
        · have hdl2 : d < (It.body l (p : Int)).length := by omega
          have hdt : ((d : Int) == ((It.body l (p : Int)).length : Int)) = false := by rw [beq_eq_false_iff_ne]; omega
          have hdI2 : (d : Int) < ((It.body l (p : Int)).length : Int) := by omega
          obtain ⟨bb, ob, rfl⟩ := It.bodyAddr HST8.out (by omega)
          obtain ⟨b0, b1⟩ := It.bodyAt HST8.out hdl2
          obtain ⟨kd, hkd⟩ : ∃ q, ((It.body l (p : Int)).getD d (0, 0)).1 = q := ⟨_, rfl⟩
          obtain ⟨nm, hnm⟩ : ∃ q, ((It.body l (p : Int)).getD d (0, 0)).2 = q := ⟨_, rfl⟩
          rw [hkd] at b0
          rw [hnm] at b1
          have hgr := (HPB.out (p : Int) (by omega) (by omega)).2 _ (It.getD_mem hdl2)
          rw [Gr.right_iff, hkd] at hgr
          by_cases hk1 : kd = 1
          · have hkt : (kd == 1) = true := by rw [beq_iff_eq]; exact hk1
            have hns := It.nexts_stop (T := t.toNat) (E := E) (F := Fs) (l := l) (x := ((p : Int), (d : Int), (lk : Int))) (.inr (by simp only [Int.toNat_natCast]; rw [hkd]; omega))
            have hnw := HNEW.out
            rw [hns, It.fresh_nil, List.append_nil] at hnw
            have HNW := Lib.hid hnw
            clear hns hnw hd hgr hkd hnm hk1
            go_wp2_with (fail)
            go_roundg ((11440 - (((p : Int), (d : Int), (lk : Int)) :: seen).length) * 1242 + todo.length)
            case measure => rw [List.length_cons]; exact HMEA.out 0 (by decide)
            case rel => exact ⟨_, _, todo, a1, c1, rfl, rfl, HNW, HST8.out.pick [3, 1, 4, 5, 6, 7] 8 rfl rfl⟩
          · have hkt : (kd == 1) = false := by rw [beq_eq_false_iff_ne]; exact hk1
            have hng := It.nexts_go (T := t.toNat) (E := E) (F := Fs) (l := l) (x := ((p : Int), (d : Int), (lk : Int))) (by
              rintro (h | h)
              · simp only at h; omega
              · simp only [Int.toNat_natCast] at h; rw [hkd] at h; omega)
            have hokx : It.okI t l ((p : Int), (d : Int), (lk : Int)) := ⟨k1, k2, k3, k4, k5, k6⟩
            have hbv : It.behind t ((p : Int), (d : Int), (lk : Int)) = if (lk : Int) < t then 2 ^ lk else 9223372036854775808 := by unfold It.behind; simp only [Int.toNat_natCast]
            have hblt := It.behind_lt HE.out hokx
            have hmlt := It.set_lt HGOOD.out HE.out hokx
            have hlow := fun q (hq : ((q : Nat) : Int) < t) => It.set_low HGOOD.out HE.out hokx hq
            have htop := fun q (hq : ((q : Nat) : Int) = t) => It.set_top HGOOD.out HE.out hokx hq
            have hrr := (It.rest_right (d := (d : Int)) HE.out hokx.1 hokx.2.1).2
            have hrl := HREST.out d hdl2
            simp only at hmlt hlow htop
            generalize It.behind t ((p : Int), (d : Int), (lk : Int)) = B at *
            have HRR : Hid (∀ x ∈ It.rest l (p : Int) (d : Int), (x.1 = 1 ∧ 0 ≤ x.2 ∧ x.2 < 64) ∨ (x.1 = 2 ∧ 0 ≤ x.2 ∧ x.2 < E.length)) := Lib.hid (fun x hx => by
              have h1 := Gr.right_iff.1 (hrr x hx)
              have h2 := HLE.out
              omega)
            have HCOLV : Hid (∀ q : Nat, (q : Int) ≤ t → (if (q : Int) = t then (Fc.beg E Fs B (It.rest l (p : Int) (d : Int))).testBit 63 else (Fc.beg E Fs B (It.rest l (p : Int) (d : Int))).testBit q) = It.opens E Fs l ((p : Int), (d : Int), (lk : Int)) q) := Lib.hid (fun q hq => by
              by_cases hqt : (q : Int) = t
              · rw [if_pos hqt]; exact htop q hqt
              · rw [if_neg hqt]; exact hlow q (by omega))
            have HBG := Lib.hid (fun W ν h => HBEG.out B hblt _ _ W ν hrl HRR.out h)
            have HMLT := Lib.hid hmlt
            have HNM := Lib.hid hnm
            have HNG := Lib.hid hng
            have HBV := Lib.hid hbv
            have g0 := (HST8.out.nth 5 rfl).celAt (i := 0) (v := .int .i64 t) rfl
            have hlk30 : lk ≤ 30 := by omega
            have hshl := It.wrap_pow hlk30
            clear hokx hbv hblt hmlt hlow htop hrr hrl hgr hng hkd hnm hd HREST HRR
            go_upto_if 74 with (fail)
            go_cut [11] (fun v11 wx => v11 = .int .u64 (B : Int) ∧ wx = w8)
            case first =>
              by_cases hlt : (lk : Int) < t
              · have hbv := HBV.out
                rw [if_pos hlt] at hbv
                have hltD : decide ((lk : Int) < t) = true := decide_eq_true hlt
                go_wp2_with (fail)
                go_meet
                exact ⟨by rw [hbv]; simp, rfl⟩
              · have hbv := HBV.out
                rw [if_neg hlt] at hbv
                have hltD : decide ((lk : Int) < t) = false := decide_eq_false hlt
                go_wp2_with (fail)
                go_meet
                exact ⟨by rw [hbv]; rfl, rfl⟩
            case rest =>
              obtain ⟨rfl, rfl⟩ := hcut
              rename World => w9
              obtain ⟨i0, i1, i2⟩ := HST8.out.at3 2 rfl
              have f0 := (HST8.out.nth 4 rfl).celAt (i := 0) (v := .slice (some ⟨gE, 0, none⟩) n.toNat cE) rfl
              have f1 := (HST8.out.nth 4 rfl).celAt (i := 1) (v := .slice (some ⟨gF, 0, none⟩) n.toNat cF) rfl
              have f2 := (HST8.out.nth 4 rfl).celAt (i := 2) (v := vW) rfl
              have f3 := (HST8.out.nth 4 rfl).celAt (i := 3) (v := vR) rfl
              have f4 := (HST8.out.nth 4 rfl).celAt (i := 4) (v := vM) rfl
              have hwx : IntKind.i64.wrap ((d : Int) + 1) = (d : Int) + 1 := IntWalk.i64_in _ (by have := (HPB.out (p : Int) (by omega) (by omega)).1; omega)
              have hcb := HCB.out
              have hs1 : ∀ W, (Instr.slice 110 (.slice (some ⟨bb, ob, none⟩) (It.body l (p : Int)).length cb) (some (.int .i64 ((d : Int) + 1))) none none).run Try.prog W = .ok (Go.sliced (some ⟨bb, ob, none⟩) (d + 1) (It.body l (p : Int)).length cb 2) W := fun W => by
                have hsz : (sizeOf (Try.prog.elem 110)).run Try.prog W = .ok 2 W := by kernel_rfl
                have := run_slice_l (P := Try.prog) W 110 (some ⟨bb, ob, none⟩) (It.body l (p : Int)).length cb (by kernel_rfl) .i64 ((d : Int) + 1) (by omega) (by omega)
                rw [hsz] at this
                exact this
              generalize Go.sliced (some ⟨bb, ob, none⟩) (d + 1) (It.body l (p : Int)).length cb 2 = V1 at hs1 HBG
              have HBC := Lib.hid (HBG.out _ _ (HST8.out.drew.pick (ρ := Fc.aB (.slice (some ⟨gE, 0, none⟩) n.toNat cE) E :: Fc.aU (.slice (some ⟨gF, 0, none⟩) n.toNat cF) Fs :: It.aBody w0 fp (some ⟨bb, ob, none⟩) cb (It.body l (p : Int)) :: aCel gx 72 #[.int .i64 (p : Int), .int .i64 (d : Int), .int .i64 (lk : Int)] :: aCel gf 68 #[.slice (some ⟨gE, 0, none⟩) n.toNat cE, .slice (some ⟨gF, 0, none⟩) n.toNat cF, vW, vR, vM] :: aCel gg 24 #[.int .i64 t, .int .i64 n, vp] :: Que.aQue 72 3 (.slice a1 todo.length c1) (todo.map It.itV) :: Cube.aCube (.slice (some ⟨gQ, 0, none⟩) (l.length + 1) cQ) (Cube.put Q p d lk) :: μ) [6, 7, 0, 2, 4, 5, 3, 1] 8 rfl rfl))
              clear g0 HBG hcb b0
              go_wp2_with (fail)
              refine wp_region_held_drew (S := (fun w' => w'.cell? ⟨gf, 0, none⟩ = some (.slice (some ⟨gE, 0, none⟩) n.toNat cE) ∧ w'.cell? ⟨gf, 1, none⟩ = some (.slice (some ⟨gF, 0, none⟩) n.toNat cF) ∧ w'.cell? ⟨gf, 2, none⟩ = some vW ∧ w'.cell? ⟨gf, 3, none⟩ = some vR ∧ w'.cell? ⟨gf, 4, none⟩ = some vM ∧ w'.cell? ⟨gx, 1, none⟩ = some (.int .i64 (d : Int)))) (by kernel_rfl) ?_ (fun hHeld => ?_)
              · (try dsimp only); (first | exact ⟨f0, f1, f2, f3, f4, i1⟩ | exact ⟨y0, y1, y2, y3, y4, yi⟩)

              refine wpAnyH_take (i := 0) (v := ?_) rfl (by kernel_rfl) (by kernel_rfl) (by kernel_rfl) (fun _ _ _ h => h) (Or.inl ⟨by rfl, ?_⟩) (by assumption) ?_
              rotate_left; focus (intro w hSw; (try dsimp only at hSw); go_simp; try (with_reducible rfl); done)
              try simp only [List.getElem_toArray, List.getElem_cons_zero, List.getElem_cons_succ, Act.put, List.setIfInBounds_toArray, List.set_cons_zero, List.set_cons_succ]
              refine wpAnyH_take (i := 1) (v := ?_) rfl (by kernel_rfl) (by kernel_rfl) (by kernel_rfl) (fun _ _ _ h => h) (Or.inl ⟨by rfl, ?_⟩) (by assumption) ?_
              rotate_left; focus (intro w hSw; (try dsimp only at hSw); go_simp; try (with_reducible rfl); done)
              try simp only [List.getElem_toArray, List.getElem_cons_zero, List.getElem_cons_succ, Act.put, List.setIfInBounds_toArray, List.set_cons_zero, List.set_cons_succ]
              refine wpAnyH_take (i := 2) (v := ?_) rfl (by kernel_rfl) (by kernel_rfl) (by kernel_rfl) (fun _ _ _ h => h) (Or.inl ⟨by rfl, ?_⟩) (by assumption) ?_
              rotate_left; focus (intro w hSw; (try dsimp only at hSw); go_simp; try (with_reducible rfl); done)
              try simp only [List.getElem_toArray, List.getElem_cons_zero, List.getElem_cons_succ, Act.put, List.setIfInBounds_toArray, List.set_cons_zero, List.set_cons_succ]
              refine wpAnyH_take (i := 3) (v := ?_) rfl (by kernel_rfl) (by kernel_rfl) (by kernel_rfl) (fun _ _ _ h => h) (Or.inl ⟨by rfl, ?_⟩) (by assumption) ?_
              rotate_left; focus (intro w hSw; (try dsimp only at hSw); go_simp; try (with_reducible rfl); done)
              try simp only [List.getElem_toArray, List.getElem_cons_zero, List.getElem_cons_succ, Act.put, List.setIfInBounds_toArray, List.set_cons_zero, List.set_cons_succ]
              refine wpAnyH_take (i := 4) (v := ?_) rfl (by kernel_rfl) (by kernel_rfl) (by kernel_rfl) (fun _ _ _ h => h) (Or.inl ⟨by rfl, ?_⟩) (by assumption) ?_
              rotate_left; focus (intro w hSw; (try dsimp only at hSw); go_simp; try (with_reducible rfl); done)
              try simp only [List.getElem_toArray, List.getElem_cons_zero, List.getElem_cons_succ, Act.put, List.setIfInBounds_toArray, List.set_cons_zero, List.set_cons_succ]
              refine wpAnyH_take (i := 5) (v := ?_) rfl (by kernel_rfl) (by kernel_rfl) (by kernel_rfl) (fun _ _ _ h => h) (Or.inl ⟨by rfl, ?_⟩) (by assumption) ?_
              rotate_left; focus (intro w hSw; (try dsimp only at hSw); go_simp; try (with_reducible rfl); done)
              try simp only [List.getElem_toArray, List.getElem_cons_zero, List.getElem_cons_succ, Act.put, List.setIfInBounds_toArray, List.set_cons_zero, List.set_cons_succ]
              refine wpAnyH_take (i := 6) (v := ?_) rfl (by kernel_rfl) (by kernel_rfl) (by kernel_rfl) (fun _ _ _ h => h) (Or.inl ⟨by rfl, ?_⟩) (by assumption) ?_
              rotate_left; focus (intro w hSw; (try dsimp only at hSw); go_simp; try (with_reducible rfl); done)
              try simp only [List.getElem_toArray, List.getElem_cons_zero, List.getElem_cons_succ, Act.put, List.setIfInBounds_toArray, List.set_cons_zero, List.set_cons_succ]
              refine wpAnyH_ready (rs := [7]) (by kernel_rfl) (by simp) ?_
              refine AllReadyH.cons rfl (fun K hK => ?_) AllReadyH.nil
              go_simp
              (go_at_call 80; refine HBC.out.mono ?_; rintro e wb9 ⟨rfl, hst9⟩; have y0 := (hst9.nth 4 rfl).celAt (i := 0) (v := .slice (some ⟨gE, 0, none⟩) n.toNat cE) rfl; have y1 := (hst9.nth 4 rfl).celAt (i := 1) (v := .slice (some ⟨gF, 0, none⟩) n.toNat cF) rfl; have y2 := (hst9.nth 4 rfl).celAt (i := 2) (v := vW) rfl; have y3 := (hst9.nth 4 rfl).celAt (i := 3) (v := vR) rfl; have y4 := (hst9.nth 4 rfl).celAt (i := 4) (v := vM) rfl; have yi := (hst9.nth 3 rfl).celAt (i := 1) (v := .int .i64 (d : Int)) rfl; have HST9 := Lib.hid hst9; clear hst9)
              refine hK.out _ _ ?_ (fun hHeld => ?_)
              · (try dsimp only); (first | exact ⟨f0, f1, f2, f3, f4, i1⟩ | exact ⟨y0, y1, y2, y3, y4, yi⟩)
              clear hK K
              try simp only [List.getElem_toArray, List.getElem_cons_zero, List.getElem_cons_succ, Act.put, List.setIfInBounds_toArray, List.set_cons_zero, List.set_cons_succ]
              refine wpAnyH_take (i := 8) (v := ?_) rfl (by kernel_rfl) (by kernel_rfl) (by kernel_rfl) (fun _ _ _ h => h) (Or.inl ⟨by rfl, ?_⟩) (by assumption) ?_
              rotate_left; focus (intro w hSw; (try dsimp only at hSw); go_simp; try (with_reducible rfl); done)
              try simp only [List.getElem_toArray, List.getElem_cons_zero, List.getElem_cons_succ, Act.put, List.setIfInBounds_toArray, List.set_cons_zero, List.set_cons_succ]
              refine wpAnyH_done (by kernel_rfl) ?_ _
              clear HST8 f0 f1 f2 f3 f4 i0 i1 i2 y0 y1 y2 y3 y4 yi HBC hs1 hwx
              obtain rfl := HVP.out
              obtain ⟨M, hM⟩ : ∃ q, Fc.beg E Fs B (It.rest l (p : Int) (d : Int)) = q := ⟨_, rfl⟩
              rw [hM] at HMLT HCOLV ⊢
              clear hM
              have hxr : ((p : Int), (d : Int), (lk : Int)).1 = (p : Int) ∧ ((p : Int), (d : Int), (lk : Int)).2.1.toNat = d := ⟨rfl, Int.toNat_natCast d⟩
              have HSH := Lib.hid HNEW.out.sh
              have HMRK : Hid (∀ i k : Nat, i < l.length + 1 → k < t.toNat + 1 → (Cube.mark (Cube.put Q p d lk) i 0 k = true ↔ ((i : Int), (0 : Int), (k : Int)) ∈ (((p : Int), (d : Int), (lk : Int)) :: seen))) := Lib.hid (fun i k h1 h2 => by simpa using HNEW.out.mrk i 0 k h1 (by omega) h2)
              have HBACK : Hid (∀ td, td = todo ++ It.fresh (((p : Int), (d : Int), (lk : Int)) :: seen) (It.came t.toNat E Fs l ((p : Int), (d : Int), (lk : Int)) l.length 0) → It.Ref t l (It.nexts t.toNat E Fs l) L (Cube.put Q p d lk) (((p : Int), (d : Int), (lk : Int)) :: seen) td ∧ (11440 - (((p : Int), (d : Int), (lk : Int)) :: seen).length) * 1242 + td.length < gk) := Lib.hid (fun td htd => by
                have h1 := HNEW.out
                have h2 := It.nexts_len (E := E) (F := Fs) (x := ((p : Int), (d : Int), (lk : Int))) HE.out
                rw [HNG.out, ← It.came_all] at h1 h2
                rw [← htd] at h1
                refine ⟨h1, ?_⟩
                rw [htd, List.length_append, List.length_cons]
                exact HMEA.out _ (Nat.le_trans It.fresh_len h2))
              have HLN : Hid (∀ td (i k : Nat), i ≤ l.length → k ≤ t.toNat + 1 → td = todo ++ It.fresh (((p : Int), (d : Int), (lk : Int)) :: seen) (It.came t.toNat E Fs l ((p : Int), (d : Int), (lk : Int)) i k) → td.length ≤ 20000000) := Lib.hid (fun td i k hi hk htd => by
                have h1 := HNEW.out.len
                have h2 := It.fresh_len (seen := (((p : Int), (d : Int), (lk : Int)) :: seen)) (A := It.came t.toNat E Fs l ((p : Int), (d : Int), (lk : Int)) i k)
                have h3 := It.came_len (T := t.toNat) (E := E) (F := Fs) (l := l) (x := ((p : Int), (d : Int), (lk : Int))) (i := i) (k := k)
                have h4 : i * (t.toNat + 1) ≤ 40 * 31 := Nat.mul_le_mul (by omega) (by omega)
                have h5 := HSL.out _ _ _ HNEW.out
                rw [List.length_append] at h1
                rw [htd, List.length_append]
                omega)
              have HHD : Hid (∀ i, ((l.getD i (0, [])).1 = nm ↔ (l.getD i (0, [])).1 = ((It.body l ((p : Int), (d : Int), (lk : Int)).1).getD ((p : Int), (d : Int), (lk : Int)).2.1.toNat (0, 0)).2)) := Lib.hid (fun i => by rw [hxr.1, hxr.2, HNM.out])
              clear HNEW HMEA HNG hxr HBV HSL HGK HGKL HGOOD HSET HBODY HBEG HL HCB
              generalize (((p : Int), (d : Int), (lk : Int)) :: seen) = sn at *
              generalize Cube.put Q p d lk = Qn at *
              generalize hX : ((p : Int), (d : Int), (lk : Int)) = X at *
              clear hX
              have HSQ := Lib.hid (HST9.out.pick (ρ := Que.aQue 72 3 (.slice a1 todo.length c1) (todo.map It.itV) :: Cube.aCube (.slice (some ⟨gQ, 0, none⟩) (l.length + 1) cQ) Qn :: aCel gx 72 #[.int .i64 (p : Int), .int .i64 (d : Int), .int .i64 (lk : Int)] :: aCel gg 24 #[.int .i64 t, .int .i64 n, .slice ap l.length cp] :: It.aBody w0 fp (some ⟨bb, ob, none⟩) cb (It.body l (p : Int)) :: aCel gf 68 #[.slice (some ⟨gE, 0, none⟩) n.toNat cE, .slice (some ⟨gF, 0, none⟩) n.toNat cF, vW, vR, vM] :: Fc.aB (.slice (some ⟨gE, 0, none⟩) n.toNat cE) E :: Fc.aU (.slice (some ⟨gF, 0, none⟩) n.toNat cF) Fs :: μ) [6, 7, 3, 5, 2, 4, 0, 1] 8 rfl rfl)
              clear HST9
              go_wp2_with (fail)
              go_loopg [8, 13] l.length (fun gk v8 v13 wr => ∃ (i : Nat) (a2 : Option Addr) (c2 : Nat) (td : List It.I), v8 = .slice a2 td.length c2 ∧ v13 = .int .i64 (i : Int) ∧ i ≤ l.length ∧ gk = l.length - i ∧ Hid (td = todo ++ It.fresh sn (It.came t.toNat E Fs l X i 0)) ∧ St w0 wr (Que.aQue 72 3 (.slice a2 td.length c2) (td.map It.itV) :: Cube.aCube (.slice (some ⟨gQ, 0, none⟩) (l.length + 1) cQ) Qn :: aCel gx 72 #[.int .i64 (p : Int), .int .i64 (d : Int), .int .i64 (lk : Int)] :: aCel gg 24 #[.int .i64 t, .int .i64 n, .slice ap l.length cp] :: It.aBody w0 fp (some ⟨bb, ob, none⟩) cb (It.body l (p : Int)) :: aCel gf 68 #[.slice (some ⟨gE, 0, none⟩) n.toNat cE, .slice (some ⟨gF, 0, none⟩) n.toNat cF, vW, vR, vM] :: Fc.aB (.slice (some ⟨gE, 0, none⟩) n.toNat cE) E :: Fc.aU (.slice (some ⟨gF, 0, none⟩) n.toNat cF) Fs :: μ))
              case atStart => exact ⟨0, a1, c1, todo, rfl, rfl, Nat.zero_le _, rfl, Lib.hid (by rw [It.came_zero, It.fresh_nil, List.append_nil]), HSQ.out⟩
              case round =>
                rename World => wi
                clear HSQ
                obtain ⟨i, a2, c2, td, rfl, rfl, hil, hgk2, HTD, hst⟩ := hrel
                have HGK2 := Lib.hid hgk2
                have HS := Lib.hid hst
                obtain ⟨g0, g1, g2⟩ := hst.at3 3 rfl
                clear hst hgk2
                by_cases hlt : i < l.length
                · have hltI : (i : Int) < (l.length : Int) := by omega
                  have hltD : decide ((i : Int) < (l.length : Int)) = true := decide_eq_true hltI
                  go_wp2_with (fail)
                  clear g0 g1 g2
                  go_loopg [8, 14] (t.toNat + 1) (fun gk v8 v14 wr => ∃ (k : Nat) (a2 : Option Addr) (c2 : Nat) (td : List It.I), v8 = .slice a2 td.length c2 ∧ v14 = .int .i64 (k : Int) ∧ k ≤ t.toNat + 1 ∧ gk = t.toNat + 1 - k ∧ Hid (td = todo ++ It.fresh sn (It.came t.toNat E Fs l X i k)) ∧ St w0 wr (Que.aQue 72 3 (.slice a2 td.length c2) (td.map It.itV) :: Cube.aCube (.slice (some ⟨gQ, 0, none⟩) (l.length + 1) cQ) Qn :: aCel gx 72 #[.int .i64 (p : Int), .int .i64 (d : Int), .int .i64 (lk : Int)] :: aCel gg 24 #[.int .i64 t, .int .i64 n, .slice ap l.length cp] :: It.aBody w0 fp (some ⟨bb, ob, none⟩) cb (It.body l (p : Int)) :: aCel gf 68 #[.slice (some ⟨gE, 0, none⟩) n.toNat cE, .slice (some ⟨gF, 0, none⟩) n.toNat cF, vW, vR, vM] :: Fc.aB (.slice (some ⟨gE, 0, none⟩) n.toNat cE) E :: Fc.aU (.slice (some ⟨gF, 0, none⟩) n.toNat cF) Fs :: μ))
                  case atStart => exact ⟨0, a2, c2, td, rfl, rfl, Nat.zero_le _, rfl, HTD, HS.out⟩
                  case round =>
                    rename World => wk
                    clear HS HTD a2 c2 td
                    obtain ⟨k, a2, c2, td, rfl, rfl, hkl2, hgk3, HTD, hst⟩ := hrel
                    have HGK3 := Lib.hid hgk3
                    have HS := Lib.hid hst
                    obtain ⟨g0, g1, g2⟩ := hst.at3 3 rfl
                    clear hst hgk3
                    by_cases hltk : k < t.toNat + 1
                    · have hltkI : (k : Int) ≤ t := by omega
                      have hltkD : decide ((k : Int) ≤ t) = true := decide_eq_true hltkI
                      obtain ⟨hap, av, nv, cv, hcell⟩ := HPC.out i hlt
                      have hbelk := HBW.out.trans (HS.out.bel.mono HBW.out.size)
                      obtain ⟨e0, -⟩ := hcell _ hbelk
                      clear hcell
                      obtain ⟨hd_, hhd_⟩ : ∃ q, (l.getD i (0, [])).1 = q := ⟨_, rfl⟩
                      rw [hhd_] at e0
                      have hhi := HHD.out i
                      obtain ⟨b0, b1⟩ := It.bodyAt (HS.out.nth 4 rfl) hdl2
                      rw [HNM.out] at b1
                      subst hap
                      have HHI1 := Lib.hid (fun h => hhd_ ▸ hhi.2 h)
                      have HHI2 := Lib.hid (fun (h : hd_ = nm) => hhi.1 (by rw [hhd_]; exact h))
                      clear hhi hhd_ b0
                      have x1 := (HS.out.nth 2 rfl).celAt (i := 1) (v := .int .i64 (d : Int)) rfl
                      have hdI3 : (d : Int) < ((It.body l (p : Int)).length : Int) := hdI2
                      have hlnt := HLN.out td i k (by omega) (by omega) HTD.out
                      have HLT := Lib.hid hlnt
                      clear hlnt
                      by_cases hh : hd_ = nm
                      · subst hh
                        have hhX := HHI2.out rfl
                        have HHX := Lib.hid hhX
                        clear hhX
                        have HCC : Hid (∀ W, Calls Try.prog 82 #[.agg #[.int .i64 t, .int .i64 n, .slice (some ⟨bp, op_, none⟩) l.length cp], .int .u64 (M : Int), .int .i64 (k : Int)] W fun e w' => e = .returned (.bool (It.opens E Fs l X k)) ∧ Below W.heap.size W w') := Lib.hid (fun W => by
                          have h := rCol_any t n (some ⟨bp, op_, none⟩) l.length cp M k HMLT.out hltkI ht30 W
                          rw [HCOLV.out k hltkI] at h
                          exact h)
                        cases hov : It.opens E Fs l X k
                        · rw [hov] at HCC
                          have HTD2 : Hid (td = todo ++ It.fresh sn (It.came t.toNat E Fs l X i (k + 1))) := Lib.hid (by rw [It.came_no hov]; exact HTD.out)
                          clear hov
                          go_wp2_with (fail)
                          refine wp_region_held_drew (S := (fun w' => w'.cell? ⟨gg, 0, none⟩ = some (.int .i64 t) ∧ w'.cell? ⟨gg, 1, none⟩ = some (.int .i64 n) ∧ w'.cell? ⟨gg, 2, none⟩ = some (.slice (some ⟨bp, op_, none⟩) l.length cp) ∧ w'.cell? ⟨bp, op_ + i * 2, none⟩ = some (.int .i64 hd_) ∧ w'.cell? ⟨gx, 1, none⟩ = some (.int .i64 (d : Int)) ∧ w'.cell? ⟨bb, ob + d * 2 + 1, none⟩ = some (.int .i64 hd_))) (by kernel_rfl) ?_ (fun hHeld => ?_)
                          · (try dsimp only); (first | exact ⟨g0, g1, g2, e0, x1, b1⟩ | exact ⟨y0, y1, y2, ye, yx, yb⟩)

                          refine wpAnyH_take (i := 0) (v := ?_) rfl (by kernel_rfl) (by kernel_rfl) (by kernel_rfl) (fun _ _ _ h => h) (Or.inl ⟨by rfl, ?_⟩) (by assumption) ?_
                          rotate_left; focus (intro w hSw; (try dsimp only at hSw); go_simp; try (with_reducible rfl); done)
                          try simp only [List.getElem_toArray, List.getElem_cons_zero, List.getElem_cons_succ, Act.put, List.setIfInBounds_toArray, List.set_cons_zero, List.set_cons_succ]
                          refine wpAnyH_take (i := 1) (v := ?_) rfl (by kernel_rfl) (by kernel_rfl) (by kernel_rfl) (fun _ _ _ h => h) (Or.inl ⟨by rfl, ?_⟩) (by assumption) ?_
                          rotate_left; focus (intro w hSw; (try dsimp only at hSw); go_simp; try (with_reducible rfl); done)
                          try simp only [List.getElem_toArray, List.getElem_cons_zero, List.getElem_cons_succ, Act.put, List.setIfInBounds_toArray, List.set_cons_zero, List.set_cons_succ]
                          refine wpAnyH_take (i := 2) (v := ?_) rfl (by kernel_rfl) (by kernel_rfl) (by kernel_rfl) (fun _ _ _ h => h) (Or.inl ⟨by rfl, ?_⟩) (by assumption) ?_
                          rotate_left; focus (intro w hSw; (try dsimp only at hSw); go_simp; try (with_reducible rfl); done)
                          try simp only [List.getElem_toArray, List.getElem_cons_zero, List.getElem_cons_succ, Act.put, List.setIfInBounds_toArray, List.set_cons_zero, List.set_cons_succ]
                          refine wpAnyH_take (i := 3) (v := ?_) rfl (by kernel_rfl) (by kernel_rfl) (by kernel_rfl) (fun _ _ _ h => h) (Or.inl ⟨by rfl, ?_⟩) (by assumption) ?_
                          rotate_left; focus (intro w hSw; (try dsimp only at hSw); go_simp; try (with_reducible rfl); done)
                          try simp only [List.getElem_toArray, List.getElem_cons_zero, List.getElem_cons_succ, Act.put, List.setIfInBounds_toArray, List.set_cons_zero, List.set_cons_succ]
                          refine wpAnyH_take (i := 4) (v := ?_) rfl (by kernel_rfl) (by kernel_rfl) (by kernel_rfl) (fun _ _ _ h => h) (Or.inl ⟨by rfl, ?_⟩) (by assumption) ?_
                          rotate_left; focus (intro w hSw; (try dsimp only at hSw); go_simp; try (with_reducible rfl); done)
                          try simp only [List.getElem_toArray, List.getElem_cons_zero, List.getElem_cons_succ, Act.put, List.setIfInBounds_toArray, List.set_cons_zero, List.set_cons_succ]
                          refine wpAnyH_take (i := 5) (v := ?_) rfl (by kernel_rfl) (by kernel_rfl) (by kernel_rfl) (fun _ _ _ h => h) (Or.inl ⟨by rfl, ?_⟩) (by assumption) ?_
                          rotate_left; focus (intro w hSw; (try dsimp only at hSw); go_simp; try (with_reducible rfl); done)
                          try simp only [List.getElem_toArray, List.getElem_cons_zero, List.getElem_cons_succ, Act.put, List.setIfInBounds_toArray, List.set_cons_zero, List.set_cons_succ]
                          refine wpAnyH_take (i := 6) (v := ?_) rfl (by kernel_rfl) (by kernel_rfl) (by kernel_rfl) (fun _ _ _ h => h) (Or.inl ⟨by rfl, ?_⟩) (by assumption) ?_
                          rotate_left; focus (intro w hSw; (try dsimp only at hSw); go_simp; try (with_reducible rfl); done)
                          try simp only [List.getElem_toArray, List.getElem_cons_zero, List.getElem_cons_succ, Act.put, List.setIfInBounds_toArray, List.set_cons_zero, List.set_cons_succ]
                          refine wpAnyH_take (i := 7) (v := ?_) rfl (by kernel_rfl) (by kernel_rfl) (by kernel_rfl) (fun _ _ _ h => h) (Or.inl ⟨by rfl, ?_⟩) (by assumption) ?_
                          rotate_left; focus (intro w hSw; (try dsimp only at hSw); go_simp; try (with_reducible rfl); done)
                          try simp only [List.getElem_toArray, List.getElem_cons_zero, List.getElem_cons_succ, Act.put, List.setIfInBounds_toArray, List.set_cons_zero, List.set_cons_succ]
                          refine wpAnyH_take (i := 8) (v := ?_) rfl (by kernel_rfl) (by kernel_rfl) (by kernel_rfl) (fun _ _ _ h => h) (Or.inl ⟨by rfl, ?_⟩) (by assumption) ?_
                          rotate_left; focus (intro w hSw; (try dsimp only at hSw); go_simp; try (with_reducible rfl); done)
                          try simp only [List.getElem_toArray, List.getElem_cons_zero, List.getElem_cons_succ, Act.put, List.setIfInBounds_toArray, List.set_cons_zero, List.set_cons_succ]
                          refine wpAnyH_take (i := 9) (v := ?_) rfl (by kernel_rfl) (by kernel_rfl) (by kernel_rfl) (fun _ _ _ h => h) (Or.inl ⟨by rfl, ?_⟩) (by assumption) ?_
                          rotate_left; focus (intro w hSw; (try dsimp only at hSw); go_simp; try (with_reducible rfl); done)
                          try simp only [List.getElem_toArray, List.getElem_cons_zero, List.getElem_cons_succ, Act.put, List.setIfInBounds_toArray, List.set_cons_zero, List.set_cons_succ]
                          refine wpAnyH_take (i := 10) (v := ?_) rfl (by kernel_rfl) (by kernel_rfl) (by kernel_rfl) (fun _ _ _ h => h) (Or.inl ⟨by rfl, ?_⟩) (by assumption) ?_
                          rotate_left; focus (intro w hSw; (try dsimp only at hSw); go_simp; try (with_reducible rfl); done)
                          try simp only [List.getElem_toArray, List.getElem_cons_zero, List.getElem_cons_succ, Act.put, List.setIfInBounds_toArray, List.set_cons_zero, List.set_cons_succ]
                          refine wpAnyH_take (i := 11) (v := ?_) rfl (by kernel_rfl) (by kernel_rfl) (by kernel_rfl) (fun _ _ _ h => h) (Or.inl ⟨by rfl, ?_⟩) (by assumption) ?_
                          rotate_left; focus (intro w hSw; (try dsimp only at hSw); go_simp; try (with_reducible rfl); done)
                          try simp only [List.getElem_toArray, List.getElem_cons_zero, List.getElem_cons_succ, Act.put, List.setIfInBounds_toArray, List.set_cons_zero, List.set_cons_succ]
                          refine wpAnyH_take (i := 12) (v := ?_) rfl (by kernel_rfl) (by kernel_rfl) (by kernel_rfl) (fun _ _ _ h => h) (Or.inl ⟨by rfl, ?_⟩) (by assumption) ?_
                          rotate_left; focus (intro w hSw; (try dsimp only at hSw); go_simp; try (with_reducible rfl); done)
                          try simp only [List.getElem_toArray, List.getElem_cons_zero, List.getElem_cons_succ, Act.put, List.setIfInBounds_toArray, List.set_cons_zero, List.set_cons_succ]
                          refine wpAnyH_take (i := 13) (v := ?_) rfl (by kernel_rfl) (by kernel_rfl) (by kernel_rfl) (fun _ _ _ h => h) (Or.inl ⟨by rfl, ?_⟩) (by assumption) ?_
                          rotate_left; focus (intro w hSw; (try dsimp only at hSw); go_simp; try (with_reducible rfl); done)
                          try simp only [List.getElem_toArray, List.getElem_cons_zero, List.getElem_cons_succ, Act.put, List.setIfInBounds_toArray, List.set_cons_zero, List.set_cons_succ]
                          refine wpAnyH_take (i := 14) (v := ?_) rfl (by kernel_rfl) (by kernel_rfl) (by kernel_rfl) (fun _ _ _ h => h) (Or.inl ⟨by rfl, ?_⟩) (by assumption) ?_
                          rotate_left; focus (intro w hSw; (try dsimp only at hSw); go_simp; try (with_reducible rfl); done)
                          try simp only [List.getElem_toArray, List.getElem_cons_zero, List.getElem_cons_succ, Act.put, List.setIfInBounds_toArray, List.set_cons_zero, List.set_cons_succ]
                          refine wpAnyH_take (i := 15) (v := ?_) rfl (by kernel_rfl) (by kernel_rfl) (by kernel_rfl) (fun _ _ _ h => h) (Or.inl ⟨by rfl, ?_⟩) (by assumption) ?_
                          rotate_left; focus (intro w hSw; (try dsimp only at hSw); go_simp; try (with_reducible rfl); done)
                          try simp only [List.getElem_toArray, List.getElem_cons_zero, List.getElem_cons_succ, Act.put, List.setIfInBounds_toArray, List.set_cons_zero, List.set_cons_succ]
                          refine wpAnyH_take (i := 16) (v := ?_) rfl (by kernel_rfl) (by kernel_rfl) (by kernel_rfl) (fun _ _ _ h => h) (Or.inl ⟨by rfl, ?_⟩) (by assumption) ?_
                          rotate_left; focus (intro w hSw; (try dsimp only at hSw); go_simp; try (with_reducible rfl); done)
                          try simp only [List.getElem_toArray, List.getElem_cons_zero, List.getElem_cons_succ, Act.put, List.setIfInBounds_toArray, List.set_cons_zero, List.set_cons_succ]
                          refine wpAnyH_ready (rs := [17]) (by kernel_rfl) (by simp) ?_
                          refine AllReadyH.cons rfl (fun K hK => ?_) AllReadyH.nil
                          go_simp
                          (go_at_call 82; refine (HCC.out _).mono ?_; rintro e w7 ⟨rfl, hb7⟩; have hst7 := HS.out.drew.call hb7; obtain ⟨y0, y1, y2⟩ := hst7.at3 3 rfl; have ye := bkeep hb7 e0; have yb := bkeep hb7 b1; have yx := bkeep hb7 x1; have HS7 := Lib.hid hst7; clear hst7 hb7)
                          refine hK.out _ _ ?_ (fun hHeld => ?_)
                          · (try dsimp only); (first | exact ⟨g0, g1, g2, e0, x1, b1⟩ | exact ⟨y0, y1, y2, ye, yx, yb⟩)
                          clear hK K
                          try simp only [List.getElem_toArray, List.getElem_cons_zero, List.getElem_cons_succ, Act.put, List.setIfInBounds_toArray, List.set_cons_zero, List.set_cons_succ]
                          refine wpAnyH_take (i := 18) (v := ?_) rfl (by kernel_rfl) (by kernel_rfl) (by kernel_rfl) (fun _ _ _ h => h) (Or.inl ⟨by rfl, ?_⟩) (by assumption) ?_
                          rotate_left; focus (intro w hSw; (try dsimp only at hSw); go_simp; try (with_reducible rfl); done)
                          try simp only [List.getElem_toArray, List.getElem_cons_zero, List.getElem_cons_succ, Act.put, List.setIfInBounds_toArray, List.set_cons_zero, List.set_cons_succ]
                          refine wpAnyH_take (i := 19) (v := ?_) rfl (by kernel_rfl) (by kernel_rfl) (by kernel_rfl) (fun _ _ _ h => h) (Or.inl ⟨by rfl, ?_⟩) (by assumption) ?_
                          rotate_left; focus (intro w hSw; (try dsimp only at hSw); go_simp; try (with_reducible rfl); done)
                          try simp only [List.getElem_toArray, List.getElem_cons_zero, List.getElem_cons_succ, Act.put, List.setIfInBounds_toArray, List.set_cons_zero, List.set_cons_succ]
                          first | (refine wpAnyH_take (i := 20) (v := undef) rfl (by kernel_rfl) (by kernel_rfl) (by kernel_rfl) (fun _ _ _ h => h) (Or.inr ⟨by rfl, rfl⟩) (by assumption) ?_) | (refine wpAnyH_take (i := 20) (v := ?_) rfl (by kernel_rfl) (by kernel_rfl) (by kernel_rfl) (fun _ _ _ h => h) (Or.inl ⟨by rfl, ?_⟩) (by assumption) ?_; rotate_left; focus (intro w hSw; (try dsimp only at hSw); go_simp; try (with_reducible rfl); done))
                          try simp only [List.getElem_toArray, List.getElem_cons_zero, List.getElem_cons_succ, Act.put, List.setIfInBounds_toArray, List.set_cons_zero, List.set_cons_succ]
                          first | (refine wpAnyH_take (i := 21) (v := undef) rfl (by kernel_rfl) (by kernel_rfl) (by kernel_rfl) (fun _ _ _ h => h) (Or.inr ⟨by rfl, rfl⟩) (by assumption) ?_) | (refine wpAnyH_take (i := 21) (v := ?_) rfl (by kernel_rfl) (by kernel_rfl) (by kernel_rfl) (fun _ _ _ h => h) (Or.inl ⟨by rfl, ?_⟩) (by assumption) ?_; rotate_left; focus (intro w hSw; (try dsimp only at hSw); go_simp; try (with_reducible rfl); done))
                          try simp only [List.getElem_toArray, List.getElem_cons_zero, List.getElem_cons_succ, Act.put, List.setIfInBounds_toArray, List.set_cons_zero, List.set_cons_succ]
                          first | (refine wpAnyH_take (i := 22) (v := undef) rfl (by kernel_rfl) (by kernel_rfl) (by kernel_rfl) (fun _ _ _ h => h) (Or.inr ⟨by rfl, rfl⟩) (by assumption) ?_) | (refine wpAnyH_take (i := 22) (v := ?_) rfl (by kernel_rfl) (by kernel_rfl) (by kernel_rfl) (fun _ _ _ h => h) (Or.inl ⟨by rfl, ?_⟩) (by assumption) ?_; rotate_left; focus (intro w hSw; (try dsimp only at hSw); go_simp; try (with_reducible rfl); done))
                          try simp only [List.getElem_toArray, List.getElem_cons_zero, List.getElem_cons_succ, Act.put, List.setIfInBounds_toArray, List.set_cons_zero, List.set_cons_succ]
                          first | (refine wpAnyH_take (i := 23) (v := undef) rfl (by kernel_rfl) (by kernel_rfl) (by kernel_rfl) (fun _ _ _ h => h) (Or.inr ⟨by rfl, rfl⟩) (by assumption) ?_) | (refine wpAnyH_take (i := 23) (v := ?_) rfl (by kernel_rfl) (by kernel_rfl) (by kernel_rfl) (fun _ _ _ h => h) (Or.inl ⟨by rfl, ?_⟩) (by assumption) ?_; rotate_left; focus (intro w hSw; (try dsimp only at hSw); go_simp; try (with_reducible rfl); done))
                          try simp only [List.getElem_toArray, List.getElem_cons_zero, List.getElem_cons_succ, Act.put, List.setIfInBounds_toArray, List.set_cons_zero, List.set_cons_succ]
                          first | (refine wpAnyH_take (i := 24) (v := undef) rfl (by kernel_rfl) (by kernel_rfl) (by kernel_rfl) (fun _ _ _ h => h) (Or.inr ⟨by rfl, rfl⟩) (by assumption) ?_) | (refine wpAnyH_take (i := 24) (v := ?_) rfl (by kernel_rfl) (by kernel_rfl) (by kernel_rfl) (fun _ _ _ h => h) (Or.inl ⟨by rfl, ?_⟩) (by assumption) ?_; rotate_left; focus (intro w hSw; (try dsimp only at hSw); go_simp; try (with_reducible rfl); done))
                          try simp only [List.getElem_toArray, List.getElem_cons_zero, List.getElem_cons_succ, Act.put, List.setIfInBounds_toArray, List.set_cons_zero, List.set_cons_succ]
                          first | (refine wpAnyH_take (i := 25) (v := undef) rfl (by kernel_rfl) (by kernel_rfl) (by kernel_rfl) (fun _ _ _ h => h) (Or.inr ⟨by rfl, rfl⟩) (by assumption) ?_) | (refine wpAnyH_take (i := 25) (v := ?_) rfl (by kernel_rfl) (by kernel_rfl) (by kernel_rfl) (fun _ _ _ h => h) (Or.inl ⟨by rfl, ?_⟩) (by assumption) ?_; rotate_left; focus (intro w hSw; (try dsimp only at hSw); go_simp; try (with_reducible rfl); done))
                          try simp only [List.getElem_toArray, List.getElem_cons_zero, List.getElem_cons_succ, Act.put, List.setIfInBounds_toArray, List.set_cons_zero, List.set_cons_succ]
                          first | (refine wpAnyH_take (i := 26) (v := undef) rfl (by kernel_rfl) (by kernel_rfl) (by kernel_rfl) (fun _ _ _ h => h) (Or.inr ⟨by rfl, rfl⟩) (by assumption) ?_) | (refine wpAnyH_take (i := 26) (v := ?_) rfl (by kernel_rfl) (by kernel_rfl) (by kernel_rfl) (fun _ _ _ h => h) (Or.inl ⟨by rfl, ?_⟩) (by assumption) ?_; rotate_left; focus (intro w hSw; (try dsimp only at hSw); go_simp; try (with_reducible rfl); done))
                          try simp only [List.getElem_toArray, List.getElem_cons_zero, List.getElem_cons_succ, Act.put, List.setIfInBounds_toArray, List.set_cons_zero, List.set_cons_succ]
                          first | (refine wpAnyH_take (i := 27) (v := undef) rfl (by kernel_rfl) (by kernel_rfl) (by kernel_rfl) (fun _ _ _ h => h) (Or.inr ⟨by rfl, rfl⟩) (by assumption) ?_) | (refine wpAnyH_take (i := 27) (v := ?_) rfl (by kernel_rfl) (by kernel_rfl) (by kernel_rfl) (fun _ _ _ h => h) (Or.inl ⟨by rfl, ?_⟩) (by assumption) ?_; rotate_left; focus (intro w hSw; (try dsimp only at hSw); go_simp; try (with_reducible rfl); done))
                          try simp only [List.getElem_toArray, List.getElem_cons_zero, List.getElem_cons_succ, Act.put, List.setIfInBounds_toArray, List.set_cons_zero, List.set_cons_succ]
                          first | (refine wpAnyH_take (i := 28) (v := undef) rfl (by kernel_rfl) (by kernel_rfl) (by kernel_rfl) (fun _ _ _ h => h) (Or.inr ⟨by rfl, rfl⟩) (by assumption) ?_) | (refine wpAnyH_take (i := 28) (v := ?_) rfl (by kernel_rfl) (by kernel_rfl) (by kernel_rfl) (fun _ _ _ h => h) (Or.inl ⟨by rfl, ?_⟩) (by assumption) ?_; rotate_left; focus (intro w hSw; (try dsimp only at hSw); go_simp; try (with_reducible rfl); done))
                          try simp only [List.getElem_toArray, List.getElem_cons_zero, List.getElem_cons_succ, Act.put, List.setIfInBounds_toArray, List.set_cons_zero, List.set_cons_succ]
                          first | (refine wpAnyH_take (i := 29) (v := undef) rfl (by kernel_rfl) (by kernel_rfl) (by kernel_rfl) (fun _ _ _ h => h) (Or.inr ⟨by rfl, rfl⟩) (by assumption) ?_) | (refine wpAnyH_take (i := 29) (v := ?_) rfl (by kernel_rfl) (by kernel_rfl) (by kernel_rfl) (fun _ _ _ h => h) (Or.inl ⟨by rfl, ?_⟩) (by assumption) ?_; rotate_left; focus (intro w hSw; (try dsimp only at hSw); go_simp; try (with_reducible rfl); done))
                          try simp only [List.getElem_toArray, List.getElem_cons_zero, List.getElem_cons_succ, Act.put, List.setIfInBounds_toArray, List.set_cons_zero, List.set_cons_succ]
                          refine wpAnyH_take (i := 30) (v := ?_) rfl (by kernel_rfl) (by kernel_rfl) (by kernel_rfl) (fun _ _ _ h => h) (Or.inl ⟨by rfl, ?_⟩) (by assumption) ?_
                          rotate_left; focus (intro w hSw; (try dsimp only at hSw); go_simp; try (with_reducible rfl); done)
                          try simp only [List.getElem_toArray, List.getElem_cons_zero, List.getElem_cons_succ, Act.put, List.setIfInBounds_toArray, List.set_cons_zero, List.set_cons_succ]
                          refine wpAnyH_done (by kernel_rfl) ?_ _
                          clear y0 y1 y2 ye yx yb g0 g1 g2 e0 x1 b1 HS HCC
                          go_wp2_with (fail)
                          go_roundg (t.toNat + 1 - (k + 1))
                          case measure => have := HGK3.out; omega
                          case rel => exact ⟨k + 1, a2, c2, td, rfl, by go_num, by omega, rfl, HTD2, HS7.out⟩
                        · rw [hov] at HCC
                          have HOV := Lib.hid hov
                          clear hov
                          obtain ⟨gp, cpl, gr, r0, r1, r2, -, -⟩ := Cube.reads (HS.out.pick (ρ := Cube.aCube (.slice (some ⟨gQ, 0, none⟩) (l.length + 1) cQ) Qn :: Fc.aB (.slice (some ⟨gE, 0, none⟩) n.toNat cE) E :: μ) [1, 6] 8 rfl rfl) HSH.out rfl (p := i) (d := 0) (k := k) (by omega) (by omega) (by omega)
                          have hmr := HMRK.out i k (by omega) (by omega)
                          obtain ⟨mk, hmk⟩ : ∃ q, Cube.mark Qn i 0 k = q := ⟨_, rfl⟩
                          rw [hmk] at r2 hmr
                          clear hmk
                          have HMR := Lib.hid hmr
                          clear hmr
                          have hiI : (i : Int) < ((l.length : Int) + 1) := by omega
                          have h0I : (0 : Int) < (((It.body l (i : Int)).length : Int) + 1) := by omega
                          have hkI3 : (k : Int) < ((t.toNat : Int) + 1) := by omega
                          have hkM3 : (k : Int) < max t 0 + 1 := by omega
                          go_wp2_with (fail)
                          refine wp_region_held_drew (S := (fun w' => w'.cell? ⟨gg, 0, none⟩ = some (.int .i64 t) ∧ w'.cell? ⟨gg, 1, none⟩ = some (.int .i64 n) ∧ w'.cell? ⟨gg, 2, none⟩ = some (.slice (some ⟨bp, op_, none⟩) l.length cp) ∧ w'.cell? ⟨bp, op_ + i * 2, none⟩ = some (.int .i64 hd_) ∧ w'.cell? ⟨gx, 1, none⟩ = some (.int .i64 (d : Int)) ∧ w'.cell? ⟨bb, ob + d * 2 + 1, none⟩ = some (.int .i64 hd_) ∧ w'.cell? ⟨gQ, i, none⟩ = some (.slice (some ⟨gp, 0, none⟩) ((It.body l (i : Int)).length + 1) cpl) ∧ w'.cell? ⟨gp, 0, none⟩ = some (.slice (some ⟨gr, 0, none⟩) (t.toNat + 1) (t.toNat + 1)) ∧ w'.cell? ⟨gr, k, none⟩ = some (.bool mk))) (by kernel_rfl) ?_ (fun hHeld => ?_)
                          · (try dsimp only); (first | exact ⟨g0, g1, g2, e0, x1, b1, r0, r1, r2⟩ | exact ⟨y0, y1, y2, ye, yx, yb, z0, z1, z2⟩)

                          refine wpAnyH_take (i := 0) (v := ?_) rfl (by kernel_rfl) (by kernel_rfl) (by kernel_rfl) (fun _ _ _ h => h) (Or.inl ⟨by rfl, ?_⟩) (by assumption) ?_
                          rotate_left; focus (intro w hSw; (try dsimp only at hSw); go_simp; try (with_reducible rfl); done)
                          try simp only [List.getElem_toArray, List.getElem_cons_zero, List.getElem_cons_succ, Act.put, List.setIfInBounds_toArray, List.set_cons_zero, List.set_cons_succ]
                          refine wpAnyH_take (i := 1) (v := ?_) rfl (by kernel_rfl) (by kernel_rfl) (by kernel_rfl) (fun _ _ _ h => h) (Or.inl ⟨by rfl, ?_⟩) (by assumption) ?_
                          rotate_left; focus (intro w hSw; (try dsimp only at hSw); go_simp; try (with_reducible rfl); done)
                          try simp only [List.getElem_toArray, List.getElem_cons_zero, List.getElem_cons_succ, Act.put, List.setIfInBounds_toArray, List.set_cons_zero, List.set_cons_succ]
                          refine wpAnyH_take (i := 2) (v := ?_) rfl (by kernel_rfl) (by kernel_rfl) (by kernel_rfl) (fun _ _ _ h => h) (Or.inl ⟨by rfl, ?_⟩) (by assumption) ?_
                          rotate_left; focus (intro w hSw; (try dsimp only at hSw); go_simp; try (with_reducible rfl); done)
                          try simp only [List.getElem_toArray, List.getElem_cons_zero, List.getElem_cons_succ, Act.put, List.setIfInBounds_toArray, List.set_cons_zero, List.set_cons_succ]
                          refine wpAnyH_take (i := 3) (v := ?_) rfl (by kernel_rfl) (by kernel_rfl) (by kernel_rfl) (fun _ _ _ h => h) (Or.inl ⟨by rfl, ?_⟩) (by assumption) ?_
                          rotate_left; focus (intro w hSw; (try dsimp only at hSw); go_simp; try (with_reducible rfl); done)
                          try simp only [List.getElem_toArray, List.getElem_cons_zero, List.getElem_cons_succ, Act.put, List.setIfInBounds_toArray, List.set_cons_zero, List.set_cons_succ]
                          refine wpAnyH_take (i := 4) (v := ?_) rfl (by kernel_rfl) (by kernel_rfl) (by kernel_rfl) (fun _ _ _ h => h) (Or.inl ⟨by rfl, ?_⟩) (by assumption) ?_
                          rotate_left; focus (intro w hSw; (try dsimp only at hSw); go_simp; try (with_reducible rfl); done)
                          try simp only [List.getElem_toArray, List.getElem_cons_zero, List.getElem_cons_succ, Act.put, List.setIfInBounds_toArray, List.set_cons_zero, List.set_cons_succ]
                          refine wpAnyH_take (i := 5) (v := ?_) rfl (by kernel_rfl) (by kernel_rfl) (by kernel_rfl) (fun _ _ _ h => h) (Or.inl ⟨by rfl, ?_⟩) (by assumption) ?_
                          rotate_left; focus (intro w hSw; (try dsimp only at hSw); go_simp; try (with_reducible rfl); done)
                          try simp only [List.getElem_toArray, List.getElem_cons_zero, List.getElem_cons_succ, Act.put, List.setIfInBounds_toArray, List.set_cons_zero, List.set_cons_succ]
                          refine wpAnyH_take (i := 6) (v := ?_) rfl (by kernel_rfl) (by kernel_rfl) (by kernel_rfl) (fun _ _ _ h => h) (Or.inl ⟨by rfl, ?_⟩) (by assumption) ?_
                          rotate_left; focus (intro w hSw; (try dsimp only at hSw); go_simp; try (with_reducible rfl); done)
                          try simp only [List.getElem_toArray, List.getElem_cons_zero, List.getElem_cons_succ, Act.put, List.setIfInBounds_toArray, List.set_cons_zero, List.set_cons_succ]
                          refine wpAnyH_take (i := 7) (v := ?_) rfl (by kernel_rfl) (by kernel_rfl) (by kernel_rfl) (fun _ _ _ h => h) (Or.inl ⟨by rfl, ?_⟩) (by assumption) ?_
                          rotate_left; focus (intro w hSw; (try dsimp only at hSw); go_simp; try (with_reducible rfl); done)
                          try simp only [List.getElem_toArray, List.getElem_cons_zero, List.getElem_cons_succ, Act.put, List.setIfInBounds_toArray, List.set_cons_zero, List.set_cons_succ]
                          refine wpAnyH_take (i := 8) (v := ?_) rfl (by kernel_rfl) (by kernel_rfl) (by kernel_rfl) (fun _ _ _ h => h) (Or.inl ⟨by rfl, ?_⟩) (by assumption) ?_
                          rotate_left; focus (intro w hSw; (try dsimp only at hSw); go_simp; try (with_reducible rfl); done)
                          try simp only [List.getElem_toArray, List.getElem_cons_zero, List.getElem_cons_succ, Act.put, List.setIfInBounds_toArray, List.set_cons_zero, List.set_cons_succ]
                          refine wpAnyH_take (i := 9) (v := ?_) rfl (by kernel_rfl) (by kernel_rfl) (by kernel_rfl) (fun _ _ _ h => h) (Or.inl ⟨by rfl, ?_⟩) (by assumption) ?_
                          rotate_left; focus (intro w hSw; (try dsimp only at hSw); go_simp; try (with_reducible rfl); done)
                          try simp only [List.getElem_toArray, List.getElem_cons_zero, List.getElem_cons_succ, Act.put, List.setIfInBounds_toArray, List.set_cons_zero, List.set_cons_succ]
                          refine wpAnyH_take (i := 10) (v := ?_) rfl (by kernel_rfl) (by kernel_rfl) (by kernel_rfl) (fun _ _ _ h => h) (Or.inl ⟨by rfl, ?_⟩) (by assumption) ?_
                          rotate_left; focus (intro w hSw; (try dsimp only at hSw); go_simp; try (with_reducible rfl); done)
                          try simp only [List.getElem_toArray, List.getElem_cons_zero, List.getElem_cons_succ, Act.put, List.setIfInBounds_toArray, List.set_cons_zero, List.set_cons_succ]
                          refine wpAnyH_take (i := 11) (v := ?_) rfl (by kernel_rfl) (by kernel_rfl) (by kernel_rfl) (fun _ _ _ h => h) (Or.inl ⟨by rfl, ?_⟩) (by assumption) ?_
                          rotate_left; focus (intro w hSw; (try dsimp only at hSw); go_simp; try (with_reducible rfl); done)
                          try simp only [List.getElem_toArray, List.getElem_cons_zero, List.getElem_cons_succ, Act.put, List.setIfInBounds_toArray, List.set_cons_zero, List.set_cons_succ]
                          refine wpAnyH_take (i := 12) (v := ?_) rfl (by kernel_rfl) (by kernel_rfl) (by kernel_rfl) (fun _ _ _ h => h) (Or.inl ⟨by rfl, ?_⟩) (by assumption) ?_
                          rotate_left; focus (intro w hSw; (try dsimp only at hSw); go_simp; try (with_reducible rfl); done)
                          try simp only [List.getElem_toArray, List.getElem_cons_zero, List.getElem_cons_succ, Act.put, List.setIfInBounds_toArray, List.set_cons_zero, List.set_cons_succ]
                          refine wpAnyH_take (i := 13) (v := ?_) rfl (by kernel_rfl) (by kernel_rfl) (by kernel_rfl) (fun _ _ _ h => h) (Or.inl ⟨by rfl, ?_⟩) (by assumption) ?_
                          rotate_left; focus (intro w hSw; (try dsimp only at hSw); go_simp; try (with_reducible rfl); done)
                          try simp only [List.getElem_toArray, List.getElem_cons_zero, List.getElem_cons_succ, Act.put, List.setIfInBounds_toArray, List.set_cons_zero, List.set_cons_succ]
                          refine wpAnyH_take (i := 14) (v := ?_) rfl (by kernel_rfl) (by kernel_rfl) (by kernel_rfl) (fun _ _ _ h => h) (Or.inl ⟨by rfl, ?_⟩) (by assumption) ?_
                          rotate_left; focus (intro w hSw; (try dsimp only at hSw); go_simp; try (with_reducible rfl); done)
                          try simp only [List.getElem_toArray, List.getElem_cons_zero, List.getElem_cons_succ, Act.put, List.setIfInBounds_toArray, List.set_cons_zero, List.set_cons_succ]
                          refine wpAnyH_take (i := 15) (v := ?_) rfl (by kernel_rfl) (by kernel_rfl) (by kernel_rfl) (fun _ _ _ h => h) (Or.inl ⟨by rfl, ?_⟩) (by assumption) ?_
                          rotate_left; focus (intro w hSw; (try dsimp only at hSw); go_simp; try (with_reducible rfl); done)
                          try simp only [List.getElem_toArray, List.getElem_cons_zero, List.getElem_cons_succ, Act.put, List.setIfInBounds_toArray, List.set_cons_zero, List.set_cons_succ]
                          refine wpAnyH_take (i := 16) (v := ?_) rfl (by kernel_rfl) (by kernel_rfl) (by kernel_rfl) (fun _ _ _ h => h) (Or.inl ⟨by rfl, ?_⟩) (by assumption) ?_
                          rotate_left; focus (intro w hSw; (try dsimp only at hSw); go_simp; try (with_reducible rfl); done)
                          try simp only [List.getElem_toArray, List.getElem_cons_zero, List.getElem_cons_succ, Act.put, List.setIfInBounds_toArray, List.set_cons_zero, List.set_cons_succ]
                          refine wpAnyH_ready (rs := [17]) (by kernel_rfl) (by simp) ?_
                          refine AllReadyH.cons rfl (fun K hK => ?_) AllReadyH.nil
                          go_simp
                          (go_at_call 82; refine (HCC.out _).mono ?_; rintro e w7 ⟨rfl, hb7⟩; have hst7 := HS.out.drew.call hb7; obtain ⟨y0, y1, y2⟩ := hst7.at3 3 rfl; have ye := bkeep hb7 e0; have yb := bkeep hb7 b1; have yx := bkeep hb7 x1; have z0 := bkeep hb7 r0; have z1 := bkeep hb7 r1; have z2 := bkeep hb7 r2; have HS7 := Lib.hid hst7; clear hst7 hb7)
                          refine hK.out _ _ ?_ (fun hHeld => ?_)
                          · (try dsimp only); (first | exact ⟨g0, g1, g2, e0, x1, b1, r0, r1, r2⟩ | exact ⟨y0, y1, y2, ye, yx, yb, z0, z1, z2⟩)
                          clear hK K
                          try simp only [List.getElem_toArray, List.getElem_cons_zero, List.getElem_cons_succ, Act.put, List.setIfInBounds_toArray, List.set_cons_zero, List.set_cons_succ]
                          refine wpAnyH_take (i := 18) (v := ?_) rfl (by kernel_rfl) (by kernel_rfl) (by kernel_rfl) (fun _ _ _ h => h) (Or.inl ⟨by rfl, ?_⟩) (by assumption) ?_
                          rotate_left; focus (intro w hSw; (try dsimp only at hSw); go_simp; try (with_reducible rfl); done)
                          try simp only [List.getElem_toArray, List.getElem_cons_zero, List.getElem_cons_succ, Act.put, List.setIfInBounds_toArray, List.set_cons_zero, List.set_cons_succ]
                          refine wpAnyH_take (i := 19) (v := ?_) rfl (by kernel_rfl) (by kernel_rfl) (by kernel_rfl) (fun _ _ _ h => h) (Or.inl ⟨by rfl, ?_⟩) (by assumption) ?_
                          rotate_left; focus (intro w hSw; (try dsimp only at hSw); go_simp; try (with_reducible rfl); done)
                          try simp only [List.getElem_toArray, List.getElem_cons_zero, List.getElem_cons_succ, Act.put, List.setIfInBounds_toArray, List.set_cons_zero, List.set_cons_succ]
                          refine wpAnyH_take (i := 20) (v := ?_) rfl (by kernel_rfl) (by kernel_rfl) (by kernel_rfl) (fun _ _ _ h => h) (Or.inl ⟨by rfl, ?_⟩) (by assumption) ?_
                          rotate_left; focus (intro w hSw; (try dsimp only at hSw); go_simp; try (with_reducible rfl); done)
                          try simp only [List.getElem_toArray, List.getElem_cons_zero, List.getElem_cons_succ, Act.put, List.setIfInBounds_toArray, List.set_cons_zero, List.set_cons_succ]
                          refine wpAnyH_take (i := 21) (v := ?_) rfl (by kernel_rfl) (by kernel_rfl) (by kernel_rfl) (fun _ _ _ h => h) (Or.inl ⟨by rfl, ?_⟩) (by assumption) ?_
                          rotate_left; focus (intro w hSw; (try dsimp only at hSw); go_simp; try (with_reducible rfl); done)
                          try simp only [List.getElem_toArray, List.getElem_cons_zero, List.getElem_cons_succ, Act.put, List.setIfInBounds_toArray, List.set_cons_zero, List.set_cons_succ]
                          refine wpAnyH_take (i := 22) (v := ?_) rfl (by kernel_rfl) (by kernel_rfl) (by kernel_rfl) (fun _ _ _ h => h) (Or.inl ⟨by rfl, ?_⟩) (by assumption) ?_
                          rotate_left; focus (intro w hSw; (try dsimp only at hSw); go_simp; try (with_reducible rfl); done)
                          try simp only [List.getElem_toArray, List.getElem_cons_zero, List.getElem_cons_succ, Act.put, List.setIfInBounds_toArray, List.set_cons_zero, List.set_cons_succ]
                          refine wpAnyH_take (i := 23) (v := ?_) rfl (by kernel_rfl) (by kernel_rfl) (by kernel_rfl) (fun _ _ _ h => h) (Or.inl ⟨by rfl, ?_⟩) (by assumption) ?_
                          rotate_left; focus (intro w hSw; (try dsimp only at hSw); go_simp; try (with_reducible rfl); done)
                          try simp only [List.getElem_toArray, List.getElem_cons_zero, List.getElem_cons_succ, Act.put, List.setIfInBounds_toArray, List.set_cons_zero, List.set_cons_succ]
                          refine wpAnyH_take (i := 24) (v := ?_) rfl (by kernel_rfl) (by kernel_rfl) (by kernel_rfl) (fun _ _ _ h => h) (Or.inl ⟨by rfl, ?_⟩) (by assumption) ?_
                          rotate_left; focus (intro w hSw; (try dsimp only at hSw); go_simp; try (with_reducible rfl); done)
                          try simp only [List.getElem_toArray, List.getElem_cons_zero, List.getElem_cons_succ, Act.put, List.setIfInBounds_toArray, List.set_cons_zero, List.set_cons_succ]
                          refine wpAnyH_take (i := 25) (v := ?_) rfl (by kernel_rfl) (by kernel_rfl) (by kernel_rfl) (fun _ _ _ h => h) (Or.inl ⟨by rfl, ?_⟩) (by assumption) ?_
                          rotate_left; focus (intro w hSw; (try dsimp only at hSw); go_simp; try (with_reducible rfl); done)
                          try simp only [List.getElem_toArray, List.getElem_cons_zero, List.getElem_cons_succ, Act.put, List.setIfInBounds_toArray, List.set_cons_zero, List.set_cons_succ]
                          refine wpAnyH_take (i := 26) (v := ?_) rfl (by kernel_rfl) (by kernel_rfl) (by kernel_rfl) (fun _ _ _ h => h) (Or.inl ⟨by rfl, ?_⟩) (by assumption) ?_
                          rotate_left; focus (intro w hSw; (try dsimp only at hSw); go_simp; try (with_reducible rfl); done)
                          try simp only [List.getElem_toArray, List.getElem_cons_zero, List.getElem_cons_succ, Act.put, List.setIfInBounds_toArray, List.set_cons_zero, List.set_cons_succ]
                          refine wpAnyH_take (i := 27) (v := ?_) rfl (by kernel_rfl) (by kernel_rfl) (by kernel_rfl) (fun _ _ _ h => h) (Or.inl ⟨by rfl, ?_⟩) (by assumption) ?_
                          rotate_left; focus (intro w hSw; (try dsimp only at hSw); go_simp; try (with_reducible rfl); done)
                          try simp only [List.getElem_toArray, List.getElem_cons_zero, List.getElem_cons_succ, Act.put, List.setIfInBounds_toArray, List.set_cons_zero, List.set_cons_succ]
                          refine wpAnyH_take (i := 28) (v := ?_) rfl (by kernel_rfl) (by kernel_rfl) (by kernel_rfl) (fun _ _ _ h => h) (Or.inl ⟨by rfl, ?_⟩) (by assumption) ?_
                          rotate_left; focus (intro w hSw; (try dsimp only at hSw); go_simp; try (with_reducible rfl); done)
                          try simp only [List.getElem_toArray, List.getElem_cons_zero, List.getElem_cons_succ, Act.put, List.setIfInBounds_toArray, List.set_cons_zero, List.set_cons_succ]
                          refine wpAnyH_take (i := 29) (v := ?_) rfl (by kernel_rfl) (by kernel_rfl) (by kernel_rfl) (fun _ _ _ h => h) (Or.inl ⟨by rfl, ?_⟩) (by assumption) ?_
                          rotate_left; focus (intro w hSw; (try dsimp only at hSw); go_simp; try (with_reducible rfl); done)
                          try simp only [List.getElem_toArray, List.getElem_cons_zero, List.getElem_cons_succ, Act.put, List.setIfInBounds_toArray, List.set_cons_zero, List.set_cons_succ]
                          refine wpAnyH_take (i := 30) (v := ?_) rfl (by kernel_rfl) (by kernel_rfl) (by kernel_rfl) (fun _ _ _ h => h) (Or.inl ⟨by rfl, ?_⟩) (by assumption) ?_
                          rotate_left; focus (intro w hSw; (try dsimp only at hSw); go_simp; try (with_reducible rfl); done)
                          try simp only [List.getElem_toArray, List.getElem_cons_zero, List.getElem_cons_succ, Act.put, List.setIfInBounds_toArray, List.set_cons_zero, List.set_cons_succ]
                          refine wpAnyH_done (by kernel_rfl) ?_ _
                          clear y0 y1 y2 ye yx yb g0 g1 g2 e0 x1 b1 z0 z1 z2 r0 r1 r2 HS HCC
                          cases mk
                          · have HTD2 : Hid (td ++ [((i : Int), (0 : Int), (k : Int))] = todo ++ It.fresh sn (It.came t.toNat E Fs l X i (k + 1))) := Lib.hid (by
                              rw [It.came_yes HHX.out HOV.out, It.fresh_new (fun hin => by have := HMR.out.2 hin; cases this), ← List.append_assoc, ← HTD.out])
                            go_wp2_with (at_builtin; go_loud (refine Que.app1n It.itemE rfl (.tmp 130) (.tmp 134) rfl rfl HS7.out (It.itV ((i : Int), (0 : Int), (k : Int))) rfl _ 1 rfl (by simp) rfl (It.it_one _) (by rw [List.length_map]; have := HLT.out; unfold maxLen; omega) (by rw [List.length_map]; have := HLT.out; omega) ?_; intro g8 n8 c8 w8 hst8; have HS8 := Lib.hid hst8; clear hst8))
                            have hn8 := Que.len HS8.out
                            rw [show td.map It.itV ++ [It.itV ((i : Int), (0 : Int), (k : Int))] = (td ++ [((i : Int), (0 : Int), (k : Int))]).map It.itV by simp] at HS8 hn8
                            rw [List.length_map] at hn8
                            subst hn8
                            generalize td ++ [((i : Int), (0 : Int), (k : Int))] = td2 at HTD2 HS8 ⊢
                            go_roundg (t.toNat + 1 - (k + 1))
                            case measure => have := HGK3.out; omega
                            case rel => exact ⟨k + 1, g8, c8, td2, rfl, by go_num, by omega, rfl, HTD2, HS8.out⟩
                          · have HTD2 : Hid (td = todo ++ It.fresh sn (It.came t.toNat E Fs l X i (k + 1))) := Lib.hid (by
                              rw [It.came_yes HHX.out HOV.out, It.fresh_old (HMR.out.1 rfl)]; exact HTD.out)
                            go_wp2_with (fail)
                            go_roundg (t.toNat + 1 - (k + 1))
                            case measure => have := HGK3.out; omega
                            case rel => exact ⟨k + 1, a2, c2, td, rfl, by go_num, by omega, rfl, HTD2, HS7.out⟩
                      · have hhb : (hd_ == nm) = false := by rw [beq_eq_false_iff_ne]; exact hh
                        have HTD2 : Hid (td = todo ++ It.fresh sn (It.came t.toNat E Fs l X i (k + 1))) := Lib.hid (by rw [It.came_skip (fun h => hh (HHI1.out h))]; exact HTD.out)
                        clear hh
                        go_wp2_with (fail)
                        refine wp_region_held_drew (S := (fun w' => w'.cell? ⟨gg, 2, none⟩ = some (.slice (some ⟨bp, op_, none⟩) l.length cp) ∧ w'.cell? ⟨bp, op_ + i * 2, none⟩ = some (.int .i64 hd_) ∧ w'.cell? ⟨gx, 1, none⟩ = some (.int .i64 (d : Int)) ∧ w'.cell? ⟨bb, ob + d * 2 + 1, none⟩ = some (.int .i64 nm))) (by kernel_rfl) ?_ (fun hHeld => ?_)
                        · (try dsimp only); (exact ⟨g2, e0, x1, b1⟩)

                        refine wpAnyH_take (i := 0) (v := ?_) rfl (by kernel_rfl) (by kernel_rfl) (by kernel_rfl) (fun _ _ _ h => h) (Or.inl ⟨by rfl, ?_⟩) (by assumption) ?_
                        rotate_left; focus (intro w hSw; (try dsimp only at hSw); go_simp; try (with_reducible rfl); done)
                        try simp only [List.getElem_toArray, List.getElem_cons_zero, List.getElem_cons_succ, Act.put, List.setIfInBounds_toArray, List.set_cons_zero, List.set_cons_succ]
                        refine wpAnyH_take (i := 1) (v := ?_) rfl (by kernel_rfl) (by kernel_rfl) (by kernel_rfl) (fun _ _ _ h => h) (Or.inl ⟨by rfl, ?_⟩) (by assumption) ?_
                        rotate_left; focus (intro w hSw; (try dsimp only at hSw); go_simp; try (with_reducible rfl); done)
                        try simp only [List.getElem_toArray, List.getElem_cons_zero, List.getElem_cons_succ, Act.put, List.setIfInBounds_toArray, List.set_cons_zero, List.set_cons_succ]
                        refine wpAnyH_take (i := 2) (v := ?_) rfl (by kernel_rfl) (by kernel_rfl) (by kernel_rfl) (fun _ _ _ h => h) (Or.inl ⟨by rfl, ?_⟩) (by assumption) ?_
                        rotate_left; focus (intro w hSw; (try dsimp only at hSw); go_simp; try (with_reducible rfl); done)
                        try simp only [List.getElem_toArray, List.getElem_cons_zero, List.getElem_cons_succ, Act.put, List.setIfInBounds_toArray, List.set_cons_zero, List.set_cons_succ]
                        refine wpAnyH_take (i := 3) (v := ?_) rfl (by kernel_rfl) (by kernel_rfl) (by kernel_rfl) (fun _ _ _ h => h) (Or.inl ⟨by rfl, ?_⟩) (by assumption) ?_
                        rotate_left; focus (intro w hSw; (try dsimp only at hSw); go_simp; try (with_reducible rfl); done)
                        try simp only [List.getElem_toArray, List.getElem_cons_zero, List.getElem_cons_succ, Act.put, List.setIfInBounds_toArray, List.set_cons_zero, List.set_cons_succ]
                        refine wpAnyH_take (i := 4) (v := ?_) rfl (by kernel_rfl) (by kernel_rfl) (by kernel_rfl) (fun _ _ _ h => h) (Or.inl ⟨by rfl, ?_⟩) (by assumption) ?_
                        rotate_left; focus (intro w hSw; (try dsimp only at hSw); go_simp; try (with_reducible rfl); done)
                        try simp only [List.getElem_toArray, List.getElem_cons_zero, List.getElem_cons_succ, Act.put, List.setIfInBounds_toArray, List.set_cons_zero, List.set_cons_succ]
                        refine wpAnyH_take (i := 5) (v := ?_) rfl (by kernel_rfl) (by kernel_rfl) (by kernel_rfl) (fun _ _ _ h => h) (Or.inl ⟨by rfl, ?_⟩) (by assumption) ?_
                        rotate_left; focus (intro w hSw; (try dsimp only at hSw); go_simp; try (with_reducible rfl); done)
                        try simp only [List.getElem_toArray, List.getElem_cons_zero, List.getElem_cons_succ, Act.put, List.setIfInBounds_toArray, List.set_cons_zero, List.set_cons_succ]
                        refine wpAnyH_take (i := 6) (v := ?_) rfl (by kernel_rfl) (by kernel_rfl) (by kernel_rfl) (fun _ _ _ h => h) (Or.inl ⟨by rfl, ?_⟩) (by assumption) ?_
                        rotate_left; focus (intro w hSw; (try dsimp only at hSw); go_simp; try (with_reducible rfl); done)
                        try simp only [List.getElem_toArray, List.getElem_cons_zero, List.getElem_cons_succ, Act.put, List.setIfInBounds_toArray, List.set_cons_zero, List.set_cons_succ]
                        refine wpAnyH_take (i := 7) (v := ?_) rfl (by kernel_rfl) (by kernel_rfl) (by kernel_rfl) (fun _ _ _ h => h) (Or.inl ⟨by rfl, ?_⟩) (by assumption) ?_
                        rotate_left; focus (intro w hSw; (try dsimp only at hSw); go_simp; try (with_reducible rfl); done)
                        try simp only [List.getElem_toArray, List.getElem_cons_zero, List.getElem_cons_succ, Act.put, List.setIfInBounds_toArray, List.set_cons_zero, List.set_cons_succ]
                        refine wpAnyH_take (i := 8) (v := ?_) rfl (by kernel_rfl) (by kernel_rfl) (by kernel_rfl) (fun _ _ _ h => h) (Or.inl ⟨by rfl, ?_⟩) (by assumption) ?_
                        rotate_left; focus (intro w hSw; (try dsimp only at hSw); go_simp; try (with_reducible rfl); done)
                        try simp only [List.getElem_toArray, List.getElem_cons_zero, List.getElem_cons_succ, Act.put, List.setIfInBounds_toArray, List.set_cons_zero, List.set_cons_succ]
                        refine wpAnyH_take (i := 9) (v := ?_) rfl (by kernel_rfl) (by kernel_rfl) (by kernel_rfl) (fun _ _ _ h => h) (Or.inl ⟨by rfl, ?_⟩) (by assumption) ?_
                        rotate_left; focus (intro w hSw; (try dsimp only at hSw); go_simp; try (with_reducible rfl); done)
                        try simp only [List.getElem_toArray, List.getElem_cons_zero, List.getElem_cons_succ, Act.put, List.setIfInBounds_toArray, List.set_cons_zero, List.set_cons_succ]
                        refine wpAnyH_take (i := 10) (v := ?_) rfl (by kernel_rfl) (by kernel_rfl) (by kernel_rfl) (fun _ _ _ h => h) (Or.inl ⟨by rfl, ?_⟩) (by assumption) ?_
                        rotate_left; focus (intro w hSw; (try dsimp only at hSw); go_simp; try (with_reducible rfl); done)
                        try simp only [List.getElem_toArray, List.getElem_cons_zero, List.getElem_cons_succ, Act.put, List.setIfInBounds_toArray, List.set_cons_zero, List.set_cons_succ]
                        refine wpAnyH_take (i := 11) (v := ?_) rfl (by kernel_rfl) (by kernel_rfl) (by kernel_rfl) (fun _ _ _ h => h) (Or.inl ⟨by rfl, ?_⟩) (by assumption) ?_
                        rotate_left; focus (intro w hSw; (try dsimp only at hSw); go_simp; try (with_reducible rfl); done)
                        try simp only [List.getElem_toArray, List.getElem_cons_zero, List.getElem_cons_succ, Act.put, List.setIfInBounds_toArray, List.set_cons_zero, List.set_cons_succ]
                        refine wpAnyH_take (i := 12) (v := ?_) rfl (by kernel_rfl) (by kernel_rfl) (by kernel_rfl) (fun _ _ _ h => h) (Or.inl ⟨by rfl, ?_⟩) (by assumption) ?_
                        rotate_left; focus (intro w hSw; (try dsimp only at hSw); go_simp; try (with_reducible rfl); done)
                        try simp only [List.getElem_toArray, List.getElem_cons_zero, List.getElem_cons_succ, Act.put, List.setIfInBounds_toArray, List.set_cons_zero, List.set_cons_succ]
                        refine wpAnyH_take (i := 13) (v := ?_) rfl (by kernel_rfl) (by kernel_rfl) (by kernel_rfl) (fun _ _ _ h => h) (Or.inl ⟨by rfl, ?_⟩) (by assumption) ?_
                        rotate_left; focus (intro w hSw; (try dsimp only at hSw); go_simp; try (with_reducible rfl); done)
                        try simp only [List.getElem_toArray, List.getElem_cons_zero, List.getElem_cons_succ, Act.put, List.setIfInBounds_toArray, List.set_cons_zero, List.set_cons_succ]
                        first | (refine wpAnyH_take (i := 14) (v := undef) rfl (by kernel_rfl) (by kernel_rfl) (by kernel_rfl) (fun _ _ _ h => h) (Or.inr ⟨by rfl, rfl⟩) (by assumption) ?_) | (refine wpAnyH_take (i := 14) (v := ?_) rfl (by kernel_rfl) (by kernel_rfl) (by kernel_rfl) (fun _ _ _ h => h) (Or.inl ⟨by rfl, ?_⟩) (by assumption) ?_; rotate_left; focus (intro w hSw; (try dsimp only at hSw); go_simp; try (with_reducible rfl); done))
                        try simp only [List.getElem_toArray, List.getElem_cons_zero, List.getElem_cons_succ, Act.put, List.setIfInBounds_toArray, List.set_cons_zero, List.set_cons_succ]
                        first | (refine wpAnyH_take (i := 15) (v := undef) rfl (by kernel_rfl) (by kernel_rfl) (by kernel_rfl) (fun _ _ _ h => h) (Or.inr ⟨by rfl, rfl⟩) (by assumption) ?_) | (refine wpAnyH_take (i := 15) (v := ?_) rfl (by kernel_rfl) (by kernel_rfl) (by kernel_rfl) (fun _ _ _ h => h) (Or.inl ⟨by rfl, ?_⟩) (by assumption) ?_; rotate_left; focus (intro w hSw; (try dsimp only at hSw); go_simp; try (with_reducible rfl); done))
                        try simp only [List.getElem_toArray, List.getElem_cons_zero, List.getElem_cons_succ, Act.put, List.setIfInBounds_toArray, List.set_cons_zero, List.set_cons_succ]
                        first | (refine wpAnyH_take (i := 16) (v := undef) rfl (by kernel_rfl) (by kernel_rfl) (by kernel_rfl) (fun _ _ _ h => h) (Or.inr ⟨by rfl, rfl⟩) (by assumption) ?_) | (refine wpAnyH_take (i := 16) (v := ?_) rfl (by kernel_rfl) (by kernel_rfl) (by kernel_rfl) (fun _ _ _ h => h) (Or.inl ⟨by rfl, ?_⟩) (by assumption) ?_; rotate_left; focus (intro w hSw; (try dsimp only at hSw); go_simp; try (with_reducible rfl); done))
                        try simp only [List.getElem_toArray, List.getElem_cons_zero, List.getElem_cons_succ, Act.put, List.setIfInBounds_toArray, List.set_cons_zero, List.set_cons_succ]
                        first | (refine wpAnyH_take (i := 17) (v := undef) rfl (by kernel_rfl) (by kernel_rfl) (by kernel_rfl) (fun _ _ _ h => h) (Or.inr ⟨by rfl, rfl⟩) (by assumption) ?_) | (refine wpAnyH_take (i := 17) (v := ?_) rfl (by kernel_rfl) (by kernel_rfl) (by kernel_rfl) (fun _ _ _ h => h) (Or.inl ⟨by rfl, ?_⟩) (by assumption) ?_; rotate_left; focus (intro w hSw; (try dsimp only at hSw); go_simp; try (with_reducible rfl); done))
                        try simp only [List.getElem_toArray, List.getElem_cons_zero, List.getElem_cons_succ, Act.put, List.setIfInBounds_toArray, List.set_cons_zero, List.set_cons_succ]
                        refine wpAnyH_take (i := 18) (v := ?_) rfl (by kernel_rfl) (by kernel_rfl) (by kernel_rfl) (fun _ _ _ h => h) (Or.inl ⟨by rfl, ?_⟩) (by assumption) ?_
                        rotate_left; focus (intro w hSw; (try dsimp only at hSw); go_simp; try (with_reducible rfl); done)
                        try simp only [List.getElem_toArray, List.getElem_cons_zero, List.getElem_cons_succ, Act.put, List.setIfInBounds_toArray, List.set_cons_zero, List.set_cons_succ]
                        refine wpAnyH_take (i := 19) (v := ?_) rfl (by kernel_rfl) (by kernel_rfl) (by kernel_rfl) (fun _ _ _ h => h) (Or.inl ⟨by rfl, ?_⟩) (by assumption) ?_
                        rotate_left; focus (intro w hSw; (try dsimp only at hSw); go_simp; try (with_reducible rfl); done)
                        try simp only [List.getElem_toArray, List.getElem_cons_zero, List.getElem_cons_succ, Act.put, List.setIfInBounds_toArray, List.set_cons_zero, List.set_cons_succ]
                        first | (refine wpAnyH_take (i := 20) (v := undef) rfl (by kernel_rfl) (by kernel_rfl) (by kernel_rfl) (fun _ _ _ h => h) (Or.inr ⟨by rfl, rfl⟩) (by assumption) ?_) | (refine wpAnyH_take (i := 20) (v := ?_) rfl (by kernel_rfl) (by kernel_rfl) (by kernel_rfl) (fun _ _ _ h => h) (Or.inl ⟨by rfl, ?_⟩) (by assumption) ?_; rotate_left; focus (intro w hSw; (try dsimp only at hSw); go_simp; try (with_reducible rfl); done))
                        try simp only [List.getElem_toArray, List.getElem_cons_zero, List.getElem_cons_succ, Act.put, List.setIfInBounds_toArray, List.set_cons_zero, List.set_cons_succ]
                        first | (refine wpAnyH_take (i := 21) (v := undef) rfl (by kernel_rfl) (by kernel_rfl) (by kernel_rfl) (fun _ _ _ h => h) (Or.inr ⟨by rfl, rfl⟩) (by assumption) ?_) | (refine wpAnyH_take (i := 21) (v := ?_) rfl (by kernel_rfl) (by kernel_rfl) (by kernel_rfl) (fun _ _ _ h => h) (Or.inl ⟨by rfl, ?_⟩) (by assumption) ?_; rotate_left; focus (intro w hSw; (try dsimp only at hSw); go_simp; try (with_reducible rfl); done))
                        try simp only [List.getElem_toArray, List.getElem_cons_zero, List.getElem_cons_succ, Act.put, List.setIfInBounds_toArray, List.set_cons_zero, List.set_cons_succ]
                        first | (refine wpAnyH_take (i := 22) (v := undef) rfl (by kernel_rfl) (by kernel_rfl) (by kernel_rfl) (fun _ _ _ h => h) (Or.inr ⟨by rfl, rfl⟩) (by assumption) ?_) | (refine wpAnyH_take (i := 22) (v := ?_) rfl (by kernel_rfl) (by kernel_rfl) (by kernel_rfl) (fun _ _ _ h => h) (Or.inl ⟨by rfl, ?_⟩) (by assumption) ?_; rotate_left; focus (intro w hSw; (try dsimp only at hSw); go_simp; try (with_reducible rfl); done))
                        try simp only [List.getElem_toArray, List.getElem_cons_zero, List.getElem_cons_succ, Act.put, List.setIfInBounds_toArray, List.set_cons_zero, List.set_cons_succ]
                        first | (refine wpAnyH_take (i := 23) (v := undef) rfl (by kernel_rfl) (by kernel_rfl) (by kernel_rfl) (fun _ _ _ h => h) (Or.inr ⟨by rfl, rfl⟩) (by assumption) ?_) | (refine wpAnyH_take (i := 23) (v := ?_) rfl (by kernel_rfl) (by kernel_rfl) (by kernel_rfl) (fun _ _ _ h => h) (Or.inl ⟨by rfl, ?_⟩) (by assumption) ?_; rotate_left; focus (intro w hSw; (try dsimp only at hSw); go_simp; try (with_reducible rfl); done))
                        try simp only [List.getElem_toArray, List.getElem_cons_zero, List.getElem_cons_succ, Act.put, List.setIfInBounds_toArray, List.set_cons_zero, List.set_cons_succ]
                        first | (refine wpAnyH_take (i := 24) (v := undef) rfl (by kernel_rfl) (by kernel_rfl) (by kernel_rfl) (fun _ _ _ h => h) (Or.inr ⟨by rfl, rfl⟩) (by assumption) ?_) | (refine wpAnyH_take (i := 24) (v := ?_) rfl (by kernel_rfl) (by kernel_rfl) (by kernel_rfl) (fun _ _ _ h => h) (Or.inl ⟨by rfl, ?_⟩) (by assumption) ?_; rotate_left; focus (intro w hSw; (try dsimp only at hSw); go_simp; try (with_reducible rfl); done))
                        try simp only [List.getElem_toArray, List.getElem_cons_zero, List.getElem_cons_succ, Act.put, List.setIfInBounds_toArray, List.set_cons_zero, List.set_cons_succ]
                        first | (refine wpAnyH_take (i := 25) (v := undef) rfl (by kernel_rfl) (by kernel_rfl) (by kernel_rfl) (fun _ _ _ h => h) (Or.inr ⟨by rfl, rfl⟩) (by assumption) ?_) | (refine wpAnyH_take (i := 25) (v := ?_) rfl (by kernel_rfl) (by kernel_rfl) (by kernel_rfl) (fun _ _ _ h => h) (Or.inl ⟨by rfl, ?_⟩) (by assumption) ?_; rotate_left; focus (intro w hSw; (try dsimp only at hSw); go_simp; try (with_reducible rfl); done))
                        try simp only [List.getElem_toArray, List.getElem_cons_zero, List.getElem_cons_succ, Act.put, List.setIfInBounds_toArray, List.set_cons_zero, List.set_cons_succ]
                        first | (refine wpAnyH_take (i := 26) (v := undef) rfl (by kernel_rfl) (by kernel_rfl) (by kernel_rfl) (fun _ _ _ h => h) (Or.inr ⟨by rfl, rfl⟩) (by assumption) ?_) | (refine wpAnyH_take (i := 26) (v := ?_) rfl (by kernel_rfl) (by kernel_rfl) (by kernel_rfl) (fun _ _ _ h => h) (Or.inl ⟨by rfl, ?_⟩) (by assumption) ?_; rotate_left; focus (intro w hSw; (try dsimp only at hSw); go_simp; try (with_reducible rfl); done))
                        try simp only [List.getElem_toArray, List.getElem_cons_zero, List.getElem_cons_succ, Act.put, List.setIfInBounds_toArray, List.set_cons_zero, List.set_cons_succ]
                        first | (refine wpAnyH_take (i := 27) (v := undef) rfl (by kernel_rfl) (by kernel_rfl) (by kernel_rfl) (fun _ _ _ h => h) (Or.inr ⟨by rfl, rfl⟩) (by assumption) ?_) | (refine wpAnyH_take (i := 27) (v := ?_) rfl (by kernel_rfl) (by kernel_rfl) (by kernel_rfl) (fun _ _ _ h => h) (Or.inl ⟨by rfl, ?_⟩) (by assumption) ?_; rotate_left; focus (intro w hSw; (try dsimp only at hSw); go_simp; try (with_reducible rfl); done))
                        try simp only [List.getElem_toArray, List.getElem_cons_zero, List.getElem_cons_succ, Act.put, List.setIfInBounds_toArray, List.set_cons_zero, List.set_cons_succ]
                        first | (refine wpAnyH_take (i := 28) (v := undef) rfl (by kernel_rfl) (by kernel_rfl) (by kernel_rfl) (fun _ _ _ h => h) (Or.inr ⟨by rfl, rfl⟩) (by assumption) ?_) | (refine wpAnyH_take (i := 28) (v := ?_) rfl (by kernel_rfl) (by kernel_rfl) (by kernel_rfl) (fun _ _ _ h => h) (Or.inl ⟨by rfl, ?_⟩) (by assumption) ?_; rotate_left; focus (intro w hSw; (try dsimp only at hSw); go_simp; try (with_reducible rfl); done))
                        try simp only [List.getElem_toArray, List.getElem_cons_zero, List.getElem_cons_succ, Act.put, List.setIfInBounds_toArray, List.set_cons_zero, List.set_cons_succ]
                        first | (refine wpAnyH_take (i := 29) (v := undef) rfl (by kernel_rfl) (by kernel_rfl) (by kernel_rfl) (fun _ _ _ h => h) (Or.inr ⟨by rfl, rfl⟩) (by assumption) ?_) | (refine wpAnyH_take (i := 29) (v := ?_) rfl (by kernel_rfl) (by kernel_rfl) (by kernel_rfl) (fun _ _ _ h => h) (Or.inl ⟨by rfl, ?_⟩) (by assumption) ?_; rotate_left; focus (intro w hSw; (try dsimp only at hSw); go_simp; try (with_reducible rfl); done))
                        try simp only [List.getElem_toArray, List.getElem_cons_zero, List.getElem_cons_succ, Act.put, List.setIfInBounds_toArray, List.set_cons_zero, List.set_cons_succ]
                        refine wpAnyH_take (i := 30) (v := ?_) rfl (by kernel_rfl) (by kernel_rfl) (by kernel_rfl) (fun _ _ _ h => h) (Or.inl ⟨by rfl, ?_⟩) (by assumption) ?_
                        rotate_left; focus (intro w hSw; (try dsimp only at hSw); go_simp; try (with_reducible rfl); done)
                        try simp only [List.getElem_toArray, List.getElem_cons_zero, List.getElem_cons_succ, Act.put, List.setIfInBounds_toArray, List.set_cons_zero, List.set_cons_succ]
                        refine wpAnyH_done (by kernel_rfl) ?_ _
                        have HS7 := Lib.hid HS.out.drew
                        clear g0 g1 g2 e0 x1 b1 HS
                        go_wp2_with (fail)
                        go_roundg (t.toNat + 1 - (k + 1))
                        case measure => have := HGK3.out; omega
                        case rel => exact ⟨k + 1, a2, c2, td, rfl, by go_num, by omega, rfl, HTD2, HS7.out⟩
                    · have hkt : k = t.toNat + 1 := by omega
                      have hltkI : ¬ (k : Int) ≤ t := by omega
                      have hltkD : decide ((k : Int) ≤ t) = false := decide_eq_false hltkI
                      rw [hkt] at HTD
                      have HTD2 : Hid (td = todo ++ It.fresh sn (It.came t.toNat E Fs l X (i + 1) 0)) := Lib.hid (by rw [← It.came_end]; exact HTD.out)
                      clear hkt
                      go_wp2_with (fail)
                      go_roundg (l.length - (i + 1))
                      case measure => have := HGK2.out; omega
                      case rel => exact ⟨i + 1, a2, c2, td, rfl, by go_num, by omega, rfl, HTD2, HS.out⟩
                · have hil2 : i = l.length := by omega
                  have hltf : ¬ (i : Int) < (l.length : Int) := by omega
                  have hltD : decide ((i : Int) < (l.length : Int)) = false := decide_eq_false hltf
                  rw [hil2] at HTD
                  have HB := Lib.hid (HBACK.out td HTD.out)
                  clear hil2
                  go_wp2_with (fail)
                  go_roundg ((11440 - sn.length) * 1242 + td.length)
                  case measure => exact HB.out.2
                  case rel => exact ⟨Qn, sn, td, a2, c2, rfl, rfl, Lib.hid HB.out.1, HS.out.pick [0, 1, 5, 3, 6, 7] 8 rfl rfl⟩
      · rw [hmk] at r2
        have hin := (HR.out.mrk p d lk hpl hdl hkl).1 hmk
        have HOLD := Lib.hid (It.ref_old HR.out hin)
        clear hmk hin
        go_quiet (fail)
        have HSB := Lib.hid (HSAD.out nq)
        clear i0 i1 i2 r0 r1 r2 r3 HSAD
        generalize World.drewN _ _ = w5 at HSB ⊢
        go_wp2_with (fail)
        go_roundg ((11440 - seen.length) * 1242 + todo.length)
        case measure => have := HGK.out; have := HGKL.out; omega
        case rel => exact ⟨Q, seen, todo, a1, c1, rfl, rfl, HOLD, HSB.out.pick [1, 2, 3, 4, 5, 6] 7 rfl rfl⟩
end Go.Proofs.Ytkhjncbjdldpbaa
